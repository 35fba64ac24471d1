/-
  ROOTS: Parse.
-/
import Derived.Test.YtjnnnnolikbjcaaRt6
import Derived.Test.YtjnnnnolikbjcaaApp
namespace Agg
open Go Go.RowKit
section
variable {P : Program} {Q : Exit → Act → World → Prop} {S : World → Prop} {l : List Oper} {l0 : List Value} {ds : List Deferred} {w : World} {o : Oper} {n i d : Nat} {bs : List Bool}
/-- one step of a region whose order is drawn -/
def HStep (P : Program) (l : List Oper) (Q : Exit → Act → World → Prop) (S : World → Prop) (n : Nat) (bs : List Bool) (l0 : List Value) (ds : List Deferred) (w : World) (i : Nat) : Prop :=
  wpOp P l.toArray (NoP Q) i (fun a' w' => S w' ∧ wpAnyH P .any l.toArray (NoP Q) S n (bs.toArray.setIfInBounds i true) a' w') ⟨l0.toArray, ds⟩ w
theorem heldTwoS {j : Nat} (hr : Region.ready .any l.toArray bs.toArray = [i, j]) (h1 : HStep P l Q S n bs l0 ds w i) (h2 : HStep P l Q S n bs l0 ds w j) : Held P l Q S (n + 1) bs l0 ds w := by
  refine wpAnyH_all hr (by simp) fun k hk => ?_
  simp only [List.mem_cons, List.not_mem_nil, or_false] at hk
  rcases hk with rfl | rfl
  · exact h1
  · exact h2
theorem heldStep1 (hr : Region.ready .any l.toArray bs.toArray = [i]) (h1 : HStep P l Q S n bs l0 ds w i) : Held P l Q S (n + 1) bs l0 ds w := by
  refine wpAnyH_all hr (by simp) fun k hk => ?_
  obtain rfl : k = i := by simpa using hk
  exact h1
theorem stepVal (hi : l[i]? = some o) (hg : o.guard = none) (hd : o.dst = some d) {v : Value} {w' : World} (hrun : (execOp (ev l0) o).run P w = .ok (.value v) w') (hS : S w')
    (h : Held P l Q S n (bs.set i true) (l0.set d v) ds w') : HStep P l Q S n bs l0 ds w i := by
  unfold HStep wpOp
  have hi' : l.toArray[i]? = some o := by simpa using hi
  simp only [hi']
  rw [if_pos (wn hg)]
  refine .inl ?_
  unfold Oper.wp
  rw [ev_eq, hrun]
  refine ⟨hS, ?_⟩
  rw [hd, put_eq]
  have : bs.toArray.setIfInBounds i true = (bs.set i true).toArray := by simp
  rw [this]; exact h
theorem stepCallV {f : FuncId} {fn : Func} (hf : P.funcs[f]? = some fn) (hbody : fn.body.isNone = false) (hname : (fn.name == "runtime.NumGoroutine") = false) {x y : Operand} {pv vy : Value} {ts : Array TypeId}
    (hi : l[i]? = some o) (hg : o.guard = none) (hd : o.dst = some d) (ho : o.op = .call { callee := .value x, args := #[y], argTypes := ts }) (hx : ev l0 x = .func (.func f) #[pv] #[]) (hy : ev l0 y = vy)
    (hc : Calls P f #[pv, vy] w fun e w' => ∃ v, e = .returned v ∧ S w' ∧ Held P l Q S n (bs.set i true) (l0.set d v) ds w') : HStep P l Q S n bs l0 ds w i := by
  unfold HStep wpOp
  have hi' : l.toArray[i]? = some o := by simpa using hi
  simp only [hi']
  rw [if_pos (wn hg)]
  refine .inl ?_
  have hrun : (execOp (ev l0) o).run P w = .ok (.enter f #[pv, vy]) w := by
    have n1 : ¬ fn.name = "runtime.NumGoroutine" := by simpa using hname
    have n2 : ¬ fn.body = none := by intro e; rw [e] at hbody; cases hbody
    simp [execOp, ho, resolve, invoke, callFunc, hf, n1, n2, Deferred.ofValue, hx, hy]
  unfold Oper.wp
  rw [ev_eq, hrun]
  refine hc.mono ?_
  rintro e w' ⟨v, rfl, hS, h⟩
  refine ⟨hS, ?_⟩
  rw [hd, put_eq]
  have : bs.toArray.setIfInBounds i true = (bs.set i true).toArray := by simp
  rw [this]; exact h
end
end Agg
namespace Go.Proofs.Ytjnnnnolikbjcaa
open Go.ChangeShapes Go.WideShapes Go.ChangeAt Go.RowKit Agg Pg Dv
attribute [local go_sem] Oper.semAt_some

/-- a root whose pages lie in a row of their own -/
def RtO (base : Nat) (w : World) (v : Value) (r : Rt) : Prop := ∃ sl, v = rtV sl r ∧ w.ownsRow base 3 1 sl r.pages.length (iC r.pages)
theorem RtO.read {base : Nat} {w : World} {v : Value} {r : Rt} (h : RtO base w v r) : RtR w v r := by
  obtain ⟨sl, h1, h2⟩ := h
  exact ⟨sl, h1, ownSl h2⟩
theorem RtO.keep {base : Nat} {w w' : World} {v : Value} {r : Rt} (h : RtO base w v r) (hb : Below w.heap.size w w') : RtO base w' v r := by
  obtain ⟨sl, h1, h2⟩ := h
  exact ⟨sl, h1, own_keep h2 hb⟩
theorem RtO.base {b b' : Nat} {w : World} {v : Value} {r : Rt} (h : RtO b w v r) (hb : b' ≤ b) : RtO b' w v r := by
  obtain ⟨sl, h1, h2⟩ := h
  exact ⟨sl, h1, own_base h2 hb⟩
theorem RtO.far {base : Nat} {w w' : World} {v : Value} {r : Rt} {g : Nat} {T : TypeId} {cs : List Value} (h : RtO base w v r) (H : Blk w g T cs) (hne : 3 ≠ T) (hg : w.grownBy w' (some g)) : RtO base w' v r := by
  obtain ⟨sl, h1, h2⟩ := h
  exact ⟨sl, h1, h2.kept hg (own_apart h2 H hne)⟩
theorem rt0_o (base : Nat) (w : World) : RtO base w (.agg #[.int .i64 0, .int .u64 0, .slice none 0 0, .int .i64 0]) rt0 := ⟨.slice none 0 0, rfl, World.ownsRow_nil _ _ _ _⟩
theorem twos_snoc (n : Nat) (l : List UInt8) : twos (n + 1) l = twos n l ++ [valB ((l.drop (2 * n)).take 2)] := by
  unfold twos; rw [List.range_succ, List.map_append]; rfl
theorem bv_one' (l : List UInt8) : ∀ u ∈ bv l, u.oneCell' = true := by
  intro u hu
  obtain ⟨c, _, rfl⟩ := List.mem_map.1 hu
  rfl
set_option maxHeartbeats 4000000 in
set_option maxRecDepth 100000 in
theorem parse_any (slot : Int) (st : Nat) (B : List UInt8) (u : Value) (w : World) (hu : Bytes w u B) (hB : B.length ≤ 1000) (hs1 : -9223372036854775808 ≤ slot) (hs2 : slot ≤ 9223372036854775807) (hst : st < 18446744073709551616) (o : Option Rt) (ho : parseR slot st B = o) :
    Calls Try.prog 29 #[.int .i64 slot, .int .u64 (st : Int), u] w fun e w' => ∃ v, e = .returned (.tuple #[v, .int .i64 (if o.isSome then 0 else 330)]) ∧ RtO w.heap.size w' v (o.getD rt0) ∧ Below w.heap.size w w' := by
  obtain ⟨x, c, rfl, hc1, hc2⟩ := SlR.shape hu
  obtain ⟨ec, hec⟩ : ∃ e : Int, (if o.isSome then (0 : Int) else 330) = e := ⟨_, rfl⟩
  rw [hec]
  have HEC := Lib.hid hec
  clear hec
  have HU := Lib.hid hu
  have HO := Lib.hid ho
  clear hu ho hc1 hc2
  obtain ⟨n, hn⟩ : ∃ n, B.length = n := ⟨_, rfl⟩
  have HN := Lib.hid hn
  have HUN : Hid (SlR w (.slice x n c) 1 n (bv B)) := Lib.hid (by have h := HU.out; rw [← hn]; exact h)
  rw [hn] at hB
  rw [hn]
  clear hn HU
  have HB := Lib.hid (Below.refl w.heap.size w)
  go_enter Try.func29, Try.ntmps29
  go_upto_region 1 with (fail)
  refine Agg.wp_at fun w1 hw1 => ?_
  have hb : Below w.heap.size w w1 := by rw [hw1.out]; repeat (first | exact Below.refl _ _ | refine Agg.bel_drew ?_ | refine Agg.bel_alloc ?_ _)
  replace HB := Lib.hid (HB.out.trans (hb.mono HB.out.size))
  replace HUN := Lib.hid (HUN.out.keep hb)
  clear hb
  have H6 : Hid (Blk w1 w.heap.size 26 [.int .i64 0, .int .u64 0, .slice none 0 0, .int .i64 0]) := by show Blk _ _ _ _; rw [hw1.out]; exact Blk.new w 26 #[.int .i64 0, .int .u64 0, .slice none 0 0, .int .i64 0]
  clear hw1
  have hsz0 := H6.out.lt
  go_upto_region 2 with (refine Agg.make ti25 _ _ rfl rfl n n rfl rfl rfl rfl (Nat.le_refl _) (by omega) (by unfold maxLen; omega) ?_; simp only [Act.put, List.setIfInBounds_toArray, List.set_cons_succ, List.set_cons_zero])
  refine Agg.wp_at fun w2 hw2 => ?_
  have hb : Below w1.heap.size w1 w2 := by rw [hw2.out]; repeat (first | exact Below.refl _ _ | refine Agg.bel_drew ?_ | refine Agg.bel_alloc ?_ _)
  replace HB := Lib.hid (HB.out.trans (hb.mono HB.out.size))
  replace HUN := Lib.hid (HUN.out.keep hb)
  replace H6 := Lib.hid (H6.out.keep hb)
  clear hb
  have hlit := World.ownsRow_lit (e := 5) (size := 1) (base := w.heap.size + 1) w1 (madeCells (Value.cells (.int .u8 0)) (n * 1)) n (by omega) (by unfold maxLen; omega) (size_madeCells _ _)
  rw [← hw2.out] at hlit
  have HO2 := Lib.hid hlit
  clear hlit
  clear hw2
  obtain ⟨gO, hgO⟩ : ∃ g, w1.heap.size = g := ⟨_, rfl⟩
  rw [hgO] at HO2 hsz0 ⊢
  clear hgO
  obtain ⟨xs, hxs⟩ : ∃ xs, xs = (madeCells (Value.cells (.int .u8 0)) (n * 1)).toList := ⟨_, rfl⟩
  have hxl : xs.length = n * 1 := by rw [hxs]; simp [size_madeCells]
  rw [← hxs] at HO2
  have HXL := Lib.hid hxl
  clear hxs hxl
  have ho := HO2.out
  have hpp := HUN.out
  go_upto_region 3 with (refine Agg.copy ti25 _ _ rfl rfl ho 0 n n rfl rfl rfl hpp (bv_one' B) n (by simp) (by omega) (fun w6 ho6 hg6 => ?_))
  clear ho hpp
  have ho7 := ho6.out
  have hsp : spliced xs (0 * 1) ((bv B).take (n * 1)) = bv B := by
    have h1 : (bv B).length = n := by rw [bv, List.length_map, HN.out]
    rw [List.take_of_length_le (by omega)]
    have := HXL.out
    simp [spliced]; omega
  rw [hsp] at ho7
  have hb6 := HB.out.trans (grown_below hg6 HB.out.size (fun j hj => (by cases hj; omega)))
  have q1 := H6.out.far' hg6 (by omega)
  replace HB := Lib.hid hb6
  replace HO2 := Lib.hid ho7
  replace H6 := Lib.hid q1
  clear ho6 ho7 hsp hg6 hb6 q1 HXL HUN
  have hsg : gO < w6.heap.size := by
    obtain ⟨r, hb, _⟩ := ownBlk HO2.out
    exact hb.lt
  go_upto_region 4 with (first
    | (refine Agg.allocRow 99 #[.int .i64 0, .int .u64 0, .slice none 0 0, .int .i64 0, .slice none 0 0] rfl rfl (by kernel_rfl) ?_; simp only [Act.put, List.setIfInBounds_toArray, List.set_cons_succ, List.set_cons_zero])
    | (refine Agg.gStoreNew 5 [.int .i64 slot, .int .u64 (st : Int), .slice none 0 0, .int .i64 0, .slice (some ⟨gO, 0, none⟩) n n] rfl rfl rfl rfl rfl rfl (by decide +kernel) rfl rfl (by simp [Value.oneCell']) ?_; simp only [Act.put]))
  have hszw := HB.out.size
  refine Agg.wp_at fun w11 hw11 => ?_
  have hb : Below w6.heap.size w6 w11 := by rw [hw11.out]; repeat (first | exact Below.refl _ _ | refine Agg.bel_drew ?_ | refine Agg.bel_alloc ?_ _)
  replace HB := Lib.hid (HB.out.trans (hb.mono HB.out.size))
  replace H6 := Lib.hid (H6.out.keep hb)
  replace HO2 := Lib.hid (HO2.out.keep hb)
  clear hb
  have H9 : Hid (Blk w11 w6.heap.size 99 [.int .i64 slot, .int .u64 (st : Int), .slice none 0 0, .int .i64 0, .slice (some ⟨gO, 0, none⟩) n n]) := by show Blk _ _ _ _; rw [hw11.out]; exact Blk.new w6 99 #[.int .i64 slot, .int .u64 (st : Int), .slice none 0 0, .int .i64 0, .slice (some ⟨gO, 0, none⟩) n n]
  clear hw11
  obtain ⟨g9, hg9⟩ : ∃ g, w6.heap.size = g := ⟨_, rfl⟩
  have hszP : gO < w6.heap.size ∧ w.heap.size < w6.heap.size := ⟨hsg, by omega⟩
  rw [hg9] at H9 hszP ⊢
  clear hg9 hsg hszw
  have hmf : ∀ (fn : Fn) (first cap : Array Value) (w : World), (Instr.makeFunc fn first cap).run Try.prog w = .ok (.func fn first cap) w := fun _ _ _ _ => rfl
  go_upto_region 5 with (fail)
  by_cases hn0 : n = 0
  · have hno : o = none := by rw [← HO.out]; exact parse_short _ _ _ (by rw [HN.out]; omega)
    subst hno
    obtain rfl : ec = 330 := by rw [← HEC.out]; rfl
    have hnn : ((n : Int) == 0) = true := by rw [hn0]; rfl
    have h6 := H6.out
    have hsz := HB.out.size
    clear hn0 hmf
    go_wp2_with (first
      | (refine Agg.gStoreB 4 [.int .i64 0, .int .u64 0, .slice none 0 0, .int .i64 0] h6 rfl rfl rfl rfl rfl (by decide +kernel) rfl rfl (by simp [Value.oneCell']) (fun w14 hb14 hg14 => ?_)))
    refine bodyPost_ret (results_row2 (m := 4) rfl hb14 rfl (by decide +kernel) rfl) rfl ⟨_, rfl, rt0_o _ _, HB.out.trans (grown_below hg14 hsz (fun j hj => by cases hj; exact Nat.le_refl _))⟩
  · have hn1 : 1 ≤ n := by omega
    have hnn : ((n : Int) == 0) = false := by simp; omega
    obtain ⟨r, hGB, _⟩ := ownBlk HO2.out
    have HGB := Lib.hid hGB
    have HBY : Hid (Bytes w11 (.slice (some ⟨gO, 0, none⟩) n n) B) := Lib.hid (by
      show SlR _ _ 1 B.length (bv B)
      rw [HN.out]; exact ownSl HO2.out)
    obtain ⟨a0, T, hBT⟩ : ∃ a T, B = a :: T := by
      have h := HN.out
      cases B with
      | nil => simp at h; omega
      | cons a T => exact ⟨a, T, rfl⟩
    have hcell : w11.cell? ⟨gO, 0, none⟩ = some (.int .u8 (a0.toNat : Int)) := by
      have h := hGB.cell 0
      rw [h, hBT]; rfl
    have hb0 : b0N B = a0.toNat := by rw [hBT]; rfl
    obtain ⟨b0, hb0'⟩ : ∃ k : Nat, a0.toNat = k := ⟨_, rfl⟩
    have hb8 : b0 < 256 := by have := a0.toNat_lt; omega
    rw [hb0'] at hcell hb0
    have HBT := Lib.hid hBT
    have HB0 := Lib.hid hb0
    have HA0 := Lib.hid hb0'
    clear hGB hBT hb0 hb0' HO2
    by_cases hlen : n = 5 + 2 * b0
    · have hd : ((n : Int) != 1 + 2 * (b0 : Int) + 4) = false := by simp; omega
      have hsz := HB.out.size
      have HLEN := Lib.hid hlen
      clear hlen
      go_upto_region 7 with (fail)
      clear hcell hnn hd
      go_wp2_with fail
      refine (rdTake_any slot st none 0 0 0 g9 _ B 1 w11 H9.out HBY.out (by rw [HN.out]; exact hn1) (by decide)).mono ?_
      rintro e w20 ⟨rfl, ⟨lv1, hg1, hl1, hob1⟩, hgr1⟩
      have q6 := Lib.hid (H6.out.far' hgr1 (by omega))
      have qg := Lib.hid (HGB.out.far' hgr1 (by omega))
      have qb := Lib.hid (HB.out.trans (grown_below hgr1 hsz (fun j e => by cases e; omega)))
      have H9 := Lib.hid hg1
      have HL := Lib.hid hl1
      have HOB : Hid (lv1.ownBlock = some gO) := Lib.hid hob1
      clear hg1 hl1 hob1 hgr1 H6 HGB HB HBY
      have H6 := q6
      have HGB := qg
      have HB := qb
      clear q6 qg qb
      have hv1 : valB (B.take 1) = (b0 : Int) := by rw [HBT.out, ← HA0.out]; simp [valB]
      rw [hv1]
      clear hv1
      rw [show B.drop 1 = T by rw [HBT.out]; rfl] at HL
      have HTL : Hid (T.length = 4 + 2 * b0) := Lib.hid (by
        have h1 := HN.out
        have h2 := HLEN.out
        rw [HBT.out, List.length_cons] at h1
        omega)
      have HSF : Hid (gO < g9 ∧ w.heap.size < g9 ∧ w.heap.size < gO) := Lib.hid ⟨hszP.1, hszP.2, hsz0⟩
      clear hszP hsz0 hsz
      go_wp2_with fail
      obtain ⟨wF, hwF⟩ : ∃ x, x = w20 := ⟨_, rfl⟩
      subst hwF
      have H9F := H9
      have HLF := HL
      have HOBF := HOB
      have H6F := H6
      have HGBF := HGB
      have HBF := HB
      clear H9 HL HOB H6 HGB HB
      go_loopw [41] (fun ix wr => ∃ (j : Nat) (px : Option Addr) (pc : Nat) (lj : Value), j ≤ b0 ∧ ix = .int .i64 j ∧ Blk wr g9 99 [.int .i64 slot, .int .u64 (st : Int), .slice px j pc, .int .i64 0, lj] ∧ wr.ownsRow (w.heap.size + 1) 3 1 (.slice px j pc) j (iC (twos j T)) ∧ Bytes wr lj (T.drop (2 * j)) ∧ lj.ownBlock = some gO
        ∧ Blk wr gO 5 (bv B ++ r) ∧ Blk wr w.heap.size 26 [.int .i64 0, .int .u64 0, .slice none 0 0, .int .i64 0] ∧ Below w.heap.size w wr) (fun ix _ => b0 - (intOf ix).toNat)
      case atStart => exact ⟨0, none, 0, lv1, by omega, rfl, H9F.out, World.ownsRow_nil _ _ _ _, HLF.out, HOBF.out, HGBF.out, H6F.out, HBF.out⟩
      case round =>
        obtain ⟨j, px, pc, lj, hj, rfl, h9, hps, hlj, hob, hgb, h6, hbw⟩ := hrel
        obtain ⟨wA, hwA⟩ : ∃ x, x = wr := ⟨_, rfl⟩
        subst hwA
        by_cases hlt : j < b0
        · have hsw := hbw.size
          have hs9 := h9.lt
          have H9 := Lib.hid h9
          have HPS := Lib.hid hps
          have HLJ := Lib.hid hlj
          have HOB := Lib.hid hob
          have HGB := Lib.hid hgb
          have H6 := Lib.hid h6
          have HB := Lib.hid hbw
          clear h9 hps hlj hob hgb h6 hbw
          go_upto_region 9 with (fail)
          refine Agg.heldBegin (S := fun _ => True) 10 (by kernel_rfl) rfl ?_
          have hb0 : Below wA.heap.size wA wA.drew := bel_drew (Below.refl _ _)
          replace H9 := Lib.hid (H9.out.keep hb0)
          replace HPS := Lib.hid (own_keep HPS.out hb0)
          replace HLJ := Lib.hid (Agg.Bytes.keep HLJ.out hb0)
          replace HGB := Lib.hid (HGB.out.keep hb0)
          replace H6 := Lib.hid (H6.out.keep hb0)
          replace HB := Lib.hid (HB.out.trans (hb0.mono HB.out.size))
          have hs9' : g9 < wA.drew.heap.size := Nat.lt_of_lt_of_le hs9 hb0.size
          clear hb0 hs9 hsw
          generalize wA.drew = z0 at *
          have hsw := HB.out.size
          simp only [List.replicate_succ, List.replicate_zero]
          have hz0 : z0.cell? ⟨g9, 2, none⟩ = some (.slice px j pc) := H9.out.cell 2
          refine Agg.heldTake (i := 0) (by decide +kernel) rfl rfl rfl (v := .pointer (some ⟨g9, 0, none⟩)) (fun W hW => Agg.run_fa (off := 0) (by kernel_rfl) rfl rfl) trivial ?_
          simp only [List.set_cons_succ, List.set_cons_zero]
          refine Agg.heldTake (i := 1) (by decide +kernel) rfl rfl rfl (v := .pointer (some ⟨g9, 2, none⟩)) (fun W hW => Agg.run_fa (off := 2) (by kernel_rfl) rfl rfl) trivial ?_
          simp only [List.set_cons_succ, List.set_cons_zero]
          refine Agg.heldTake (i := 3) (by decide +kernel) rfl rfl rfl (v := .func (.func 57) #[.pointer (some ⟨g9, 0, none⟩)] #[]) (fun W hW => Agg.run_move rfl rfl) trivial ?_
          simp only [List.set_cons_succ, List.set_cons_zero]
          have hdl : 2 ≤ (T.drop (2 * j)).length := by rw [List.length_drop, HTL.out]; omega
          obtain ⟨y, hy⟩ : ∃ y, valB ((T.drop (2 * j)).take 2) = y := ⟨_, rfl⟩
          have hts := twos_snoc j T
          rw [hy] at hts
          have htk := rdTake_any slot st px j pc 0 g9 lj (T.drop (2 * j)) 2 z0 H9.out HLJ.out hdl (by decide)
          rw [hy] at htk
          clear hy
          refine Agg.heldTwoS (i := 2) (j := 4) (by decide +kernel) ?_ ?_
          · refine Agg.stepVal (i := 2) rfl rfl rfl (v := .slice px j pc) (w' := z0) (Agg.run_ld (by kernel_rfl) rfl rfl hz0) trivial ?_
            simp only [List.set_cons_succ, List.set_cons_zero]
            refine Agg.heldStep1 (i := 4) (by decide +kernel) ?_
            refine Agg.stepCallV Try.func57 rfl rfl (i := 4) rfl rfl rfl rfl rfl rfl (htk.mono ?_)
            rintro e z1 ⟨rfl, ⟨l1, hg1, hl1, hob1⟩, hgr1⟩
            refine ⟨_, rfl, trivial, ?_⟩
            simp only [List.set_cons_succ, List.set_cons_zero]
            have hps1 : z1.ownsRow (w.heap.size + 1) 3 1 (.slice px j pc) j (iC (twos j T)) := HPS.out.kept hgr1 (own_apart HPS.out H9.out (by decide))
            have hgb1 := HGB.out.far' hgr1 (by have := HSF.out.1; omega)
            have h61 := H6.out.far' hgr1 (by have := HSF.out.2.1; omega)
            have hb1 := HB.out.trans (grown_below hgr1 hsw (fun j e => by cases e; exact Nat.le_of_lt HSF.out.2.1))
            have hsz1 := hgr1.size
            have hbA : Below z1.heap.size z1 (z1.alloc (.cells #[.int .i64 y] 3)) := (Below.refl _ _).alloc (Nat.le_refl _) _
            have hsl : SlR (z1.alloc (.cells #[.int .i64 y] 3)) (.slice (some ⟨z1.heap.size, 0, none⟩) 1 1) 1 1 [.int .i64 y] := NewSl.sl (b0 := 0) (e := 3) ⟨_, rfl, Nat.zero_le _, Blk.new z1 3 #[.int .i64 y]⟩ rfl (by unfold maxLen; decide)
            have hps2 := own_keep hps1 hbA
            have hg2 := hg1.keep hbA
            have hl2 := Agg.Bytes.keep hl1 hbA
            have hgb2 := hgb1.keep hbA
            have h62 := h61.keep hbA
            have hb2 := hb1.trans (hbA.mono hb1.size)
            have hbase : w.heap.size + 1 ≤ (z1.alloc (.cells #[.int .i64 y] 3)).heap.size := by have := hbA.size; have := HSF.out.2.1; omega
            refine Agg.heldOne (i := 5) (by decide +kernel) rfl rfl rfl (v := .slice (some ⟨z1.heap.size, 0, none⟩) 1 1) (w' := z1.alloc (.cells #[.int .i64 y] 3)) (by exact Agg.run_buildSl (ps := [(0, .tmp 47)]) #[.int .i64 y] rfl (by kernel_rfl)) trivial ?_
            simp only [List.set_cons_succ, List.set_cons_zero]
            refine Agg.heldAppend tiInt (.tmp 45) (.tmp 48) (i := 6) (by decide +kernel) rfl rfl rfl rfl (w.heap.size + 1) (v := .slice px j pc) rfl hps2 rfl hsl (by simp [Value.oneCell']) (by unfold maxLen; omega) (by omega) hbase (fun v4 w4 hC4 hg4 _ => ⟨trivial, ?_⟩)
            simp only [List.set_cons_succ, List.set_cons_zero]
            obtain ⟨v4x, v4c, rfl, _, _⟩ := (ownSl hC4).shape
            have hg4' := blk_row hg2 hg4 (own_apart hps2 hg2 (by decide))
            have hgb4 := blk_row hgb2 hg4 (own_apart hps2 hgb2 (by decide))
            have h64 := blk_row h62 hg4 (own_apart hps2 h62 (by decide))
            have hl4 : Bytes w4 l1 ((T.drop (2 * j)).drop 2) := Agg.Bytes.grown hl2 hg4 (fun k hk e => by
              rw [hob1, HOB.out] at e
              rcases own_apart hps2 hgb2 (by decide) with h | h
              · rw [h] at hk; cases hk
              · rw [hk] at h; exact h e.symm)
            have hb4 := hb2.trans (grown_below hg4 hb2.size (fun k e => by have := own_block hps2 k e; omega))
            refine Agg.heldOne (i := 7) (by decide +kernel) rfl rfl rfl (v := .pointer (some ⟨g9, 0, none⟩)) (w' := w4) (Agg.run_fa (off := 0) (by kernel_rfl) rfl rfl) trivial ?_
            simp only [List.set_cons_succ, List.set_cons_zero]
            refine Agg.heldOne (i := 8) (by decide +kernel) rfl rfl rfl (v := .pointer (some ⟨g9, 2, none⟩)) (w' := w4) (Agg.run_fa (off := 2) (by kernel_rfl) rfl rfl) trivial ?_
            simp only [List.set_cons_succ, List.set_cons_zero]
            refine Agg.heldSt (i := 9) (f := 2) (.slice v4x (j + 1) v4c) [.slice v4x (j + 1) v4c] hg4' rfl (by kernel_rfl) (by simp) (by simp [Value.oneCell']) (by decide +kernel) rfl rfl rfl rfl rfl rfl (fun w5 hb5 hg5 => ⟨trivial, ?_⟩)
            refine Agg.heldDone (by decide +kernel) ?_
            have e5 : spliced [.int .i64 slot, .int .u64 (st : Int), .slice px j pc, .int .i64 0, l1] 2 [.slice v4x (j + 1) v4c] = [.int .i64 slot, .int .u64 (st : Int), .slice v4x (j + 1) v4c, .int .i64 0, l1] := rfl
            rw [e5] at hb5
            have hi4 : iC (twos j T) ++ [.int .i64 y] = iC (twos (j + 1) T) := by rw [hts]; unfold iC; rw [List.map_append]; rfl
            rw [hi4] at hC4
            have HX1 := Lib.hid hb5
            have HX2 := Lib.hid (hC4.kept hg5 (own_apart hC4 hg4' (by decide)))
            have hl5 : Bytes w5 l1 (T.drop (2 * (j + 1))) := by
              have h := Agg.Bytes.grown hl4 hg5 (fun k hk e => by
                rw [hob1, HOB.out] at e
                cases hk
                injection e with e
                have := HSF.out.1
                omega)
              rw [List.drop_drop] at h
              rw [show 2 * (j + 1) = 2 * j + 2 by omega]
              exact h
            have HX3 := Lib.hid hl5
            have HX4 := Lib.hid (hob1.trans HOB.out)
            have HX5 := Lib.hid (hgb4.far' hg5 (by have := HSF.out.1; omega))
            have HX6 := Lib.hid (h64.far' hg5 (by have := HSF.out.2.1; omega))
            have HX7 := Lib.hid (hb4.trans (grown_below hg5 hb4.size (fun k e => by cases e; exact Nat.le_of_lt HSF.out.2.1)))
            clear hb5 hC4 hg4 hg5 hl5 hl4 hgb4 h64 hb4 hg4' hps1 hgb1 h61 hb1 hsz1 hbA hsl hps2 hg2 hl2 hgb2 h62 hb2 hbase hg1 hl1 hob1 hgr1 hz0 e5 hi4 hts htk
            go_wp2_with fail
            exact ⟨⟨j + 1, v4x, v4c, l1, by omega, by go_num, HX1.out, HX2.out, HX3.out, HX4.out, HX5.out, HX6.out, HX7.out⟩, by simp [intOf]; omega⟩
          · refine Agg.stepCallV Try.func57 rfl rfl (i := 4) rfl rfl rfl rfl rfl rfl (htk.mono ?_)
            rintro e z1 ⟨rfl, ⟨l1, hg1, hl1, hob1⟩, hgr1⟩
            refine ⟨_, rfl, trivial, ?_⟩
            simp only [List.set_cons_succ, List.set_cons_zero]
            have hz1 : z1.cell? ⟨g9, 2, none⟩ = some (.slice px j pc) := hg1.cell 2
            have hps1 : z1.ownsRow (w.heap.size + 1) 3 1 (.slice px j pc) j (iC (twos j T)) := HPS.out.kept hgr1 (own_apart HPS.out H9.out (by decide))
            have hgb1 := HGB.out.far' hgr1 (by have := HSF.out.1; omega)
            have h61 := H6.out.far' hgr1 (by have := HSF.out.2.1; omega)
            have hb1 := HB.out.trans (grown_below hgr1 hsw (fun j e => by cases e; exact Nat.le_of_lt HSF.out.2.1))
            have hsz1 := hgr1.size
            have hbA : Below z1.heap.size z1 (z1.alloc (.cells #[.int .i64 y] 3)) := (Below.refl _ _).alloc (Nat.le_refl _) _
            have hsl : SlR (z1.alloc (.cells #[.int .i64 y] 3)) (.slice (some ⟨z1.heap.size, 0, none⟩) 1 1) 1 1 [.int .i64 y] := NewSl.sl (b0 := 0) (e := 3) ⟨_, rfl, Nat.zero_le _, Blk.new z1 3 #[.int .i64 y]⟩ rfl (by unfold maxLen; decide)
            have hps2 := own_keep hps1 hbA
            have hg2 := hg1.keep hbA
            have hl2 := Agg.Bytes.keep hl1 hbA
            have hgb2 := hgb1.keep hbA
            have h62 := h61.keep hbA
            have hb2 := hb1.trans (hbA.mono hb1.size)
            have hbase : w.heap.size + 1 ≤ (z1.alloc (.cells #[.int .i64 y] 3)).heap.size := by have := hbA.size; have := HSF.out.2.1; omega
            refine Agg.heldTwoS (i := 2) (j := 5) (by decide +kernel) ?_ ?_
            · refine Agg.stepVal (i := 2) rfl rfl rfl (v := .slice px j pc) (w' := z1) (Agg.run_ld (by kernel_rfl) rfl rfl hz1) trivial ?_
              simp only [List.set_cons_succ, List.set_cons_zero]
              refine Agg.heldOne (i := 5) (by decide +kernel) rfl rfl rfl (v := .slice (some ⟨z1.heap.size, 0, none⟩) 1 1) (w' := z1.alloc (.cells #[.int .i64 y] 3)) (by exact Agg.run_buildSl (ps := [(0, .tmp 47)]) #[.int .i64 y] rfl (by kernel_rfl)) trivial ?_
              simp only [List.set_cons_succ, List.set_cons_zero]
              refine Agg.heldAppend tiInt (.tmp 45) (.tmp 48) (i := 6) (by decide +kernel) rfl rfl rfl rfl (w.heap.size + 1) (v := .slice px j pc) rfl hps2 rfl hsl (by simp [Value.oneCell']) (by unfold maxLen; omega) (by omega) hbase (fun v4 w4 hC4 hg4 _ => ⟨trivial, ?_⟩)
              simp only [List.set_cons_succ, List.set_cons_zero]
              obtain ⟨v4x, v4c, rfl, _, _⟩ := (ownSl hC4).shape
              have hg4' := blk_row hg2 hg4 (own_apart hps2 hg2 (by decide))
              have hgb4 := blk_row hgb2 hg4 (own_apart hps2 hgb2 (by decide))
              have h64 := blk_row h62 hg4 (own_apart hps2 h62 (by decide))
              have hl4 : Bytes w4 l1 ((T.drop (2 * j)).drop 2) := Agg.Bytes.grown hl2 hg4 (fun k hk e => by
                rw [hob1, HOB.out] at e
                rcases own_apart hps2 hgb2 (by decide) with h | h
                · rw [h] at hk; cases hk
                · rw [hk] at h; exact h e.symm)
              have hb4 := hb2.trans (grown_below hg4 hb2.size (fun k e => by have := own_block hps2 k e; omega))
              refine Agg.heldOne (i := 7) (by decide +kernel) rfl rfl rfl (v := .pointer (some ⟨g9, 0, none⟩)) (w' := w4) (Agg.run_fa (off := 0) (by kernel_rfl) rfl rfl) trivial ?_
              simp only [List.set_cons_succ, List.set_cons_zero]
              refine Agg.heldOne (i := 8) (by decide +kernel) rfl rfl rfl (v := .pointer (some ⟨g9, 2, none⟩)) (w' := w4) (Agg.run_fa (off := 2) (by kernel_rfl) rfl rfl) trivial ?_
              simp only [List.set_cons_succ, List.set_cons_zero]
              refine Agg.heldSt (i := 9) (f := 2) (.slice v4x (j + 1) v4c) [.slice v4x (j + 1) v4c] hg4' rfl (by kernel_rfl) (by simp) (by simp [Value.oneCell']) (by decide +kernel) rfl rfl rfl rfl rfl rfl (fun w5 hb5 hg5 => ⟨trivial, ?_⟩)
              refine Agg.heldDone (by decide +kernel) ?_
              have e5 : spliced [.int .i64 slot, .int .u64 (st : Int), .slice px j pc, .int .i64 0, l1] 2 [.slice v4x (j + 1) v4c] = [.int .i64 slot, .int .u64 (st : Int), .slice v4x (j + 1) v4c, .int .i64 0, l1] := rfl
              rw [e5] at hb5
              have hi4 : iC (twos j T) ++ [.int .i64 y] = iC (twos (j + 1) T) := by rw [hts]; unfold iC; rw [List.map_append]; rfl
              rw [hi4] at hC4
              have HX1 := Lib.hid hb5
              have HX2 := Lib.hid (hC4.kept hg5 (own_apart hC4 hg4' (by decide)))
              have hl5 : Bytes w5 l1 (T.drop (2 * (j + 1))) := by
                have h := Agg.Bytes.grown hl4 hg5 (fun k hk e => by
                  rw [hob1, HOB.out] at e
                  cases hk
                  injection e with e
                  have := HSF.out.1
                  omega)
                rw [List.drop_drop] at h
                rw [show 2 * (j + 1) = 2 * j + 2 by omega]
                exact h
              have HX3 := Lib.hid hl5
              have HX4 := Lib.hid (hob1.trans HOB.out)
              have HX5 := Lib.hid (hgb4.far' hg5 (by have := HSF.out.1; omega))
              have HX6 := Lib.hid (h64.far' hg5 (by have := HSF.out.2.1; omega))
              have HX7 := Lib.hid (hb4.trans (grown_below hg5 hb4.size (fun k e => by cases e; exact Nat.le_of_lt HSF.out.2.1)))
              clear hb5 hC4 hg4 hg5 hl5 hl4 hgb4 h64 hb4 hg4' hps1 hgb1 h61 hb1 hsz1 hbA hsl hps2 hg2 hl2 hgb2 h62 hb2 hbase hg1 hl1 hob1 hgr1 hz0 e5 hi4 hts htk
              go_wp2_with fail
              exact ⟨⟨j + 1, v4x, v4c, l1, by omega, by go_num, HX1.out, HX2.out, HX3.out, HX4.out, HX5.out, HX6.out, HX7.out⟩, by simp [intOf]; omega⟩
            · refine Agg.stepVal (i := 5) rfl rfl rfl (v := .slice (some ⟨z1.heap.size, 0, none⟩) 1 1) (w' := z1.alloc (.cells #[.int .i64 y] 3)) (by exact Agg.run_buildSl (ps := [(0, .tmp 47)]) #[.int .i64 y] rfl (by kernel_rfl)) trivial ?_
              simp only [List.set_cons_succ, List.set_cons_zero]
              refine Agg.heldOne (i := 2) (by decide +kernel) rfl rfl rfl (v := .slice px j pc) (w' := z1.alloc (.cells #[.int .i64 y] 3)) (Agg.run_ld (by kernel_rfl) rfl rfl (hg2.cell 2)) trivial ?_
              simp only [List.set_cons_succ, List.set_cons_zero]
              refine Agg.heldAppend tiInt (.tmp 45) (.tmp 48) (i := 6) (by decide +kernel) rfl rfl rfl rfl (w.heap.size + 1) (v := .slice px j pc) rfl hps2 rfl hsl (by simp [Value.oneCell']) (by unfold maxLen; omega) (by omega) hbase (fun v4 w4 hC4 hg4 _ => ⟨trivial, ?_⟩)
              simp only [List.set_cons_succ, List.set_cons_zero]
              obtain ⟨v4x, v4c, rfl, _, _⟩ := (ownSl hC4).shape
              have hg4' := blk_row hg2 hg4 (own_apart hps2 hg2 (by decide))
              have hgb4 := blk_row hgb2 hg4 (own_apart hps2 hgb2 (by decide))
              have h64 := blk_row h62 hg4 (own_apart hps2 h62 (by decide))
              have hl4 : Bytes w4 l1 ((T.drop (2 * j)).drop 2) := Agg.Bytes.grown hl2 hg4 (fun k hk e => by
                rw [hob1, HOB.out] at e
                rcases own_apart hps2 hgb2 (by decide) with h | h
                · rw [h] at hk; cases hk
                · rw [hk] at h; exact h e.symm)
              have hb4 := hb2.trans (grown_below hg4 hb2.size (fun k e => by have := own_block hps2 k e; omega))
              refine Agg.heldOne (i := 7) (by decide +kernel) rfl rfl rfl (v := .pointer (some ⟨g9, 0, none⟩)) (w' := w4) (Agg.run_fa (off := 0) (by kernel_rfl) rfl rfl) trivial ?_
              simp only [List.set_cons_succ, List.set_cons_zero]
              refine Agg.heldOne (i := 8) (by decide +kernel) rfl rfl rfl (v := .pointer (some ⟨g9, 2, none⟩)) (w' := w4) (Agg.run_fa (off := 2) (by kernel_rfl) rfl rfl) trivial ?_
              simp only [List.set_cons_succ, List.set_cons_zero]
              refine Agg.heldSt (i := 9) (f := 2) (.slice v4x (j + 1) v4c) [.slice v4x (j + 1) v4c] hg4' rfl (by kernel_rfl) (by simp) (by simp [Value.oneCell']) (by decide +kernel) rfl rfl rfl rfl rfl rfl (fun w5 hb5 hg5 => ⟨trivial, ?_⟩)
              refine Agg.heldDone (by decide +kernel) ?_
              have e5 : spliced [.int .i64 slot, .int .u64 (st : Int), .slice px j pc, .int .i64 0, l1] 2 [.slice v4x (j + 1) v4c] = [.int .i64 slot, .int .u64 (st : Int), .slice v4x (j + 1) v4c, .int .i64 0, l1] := rfl
              rw [e5] at hb5
              have hi4 : iC (twos j T) ++ [.int .i64 y] = iC (twos (j + 1) T) := by rw [hts]; unfold iC; rw [List.map_append]; rfl
              rw [hi4] at hC4
              have HX1 := Lib.hid hb5
              have HX2 := Lib.hid (hC4.kept hg5 (own_apart hC4 hg4' (by decide)))
              have hl5 : Bytes w5 l1 (T.drop (2 * (j + 1))) := by
                have h := Agg.Bytes.grown hl4 hg5 (fun k hk e => by
                  rw [hob1, HOB.out] at e
                  cases hk
                  injection e with e
                  have := HSF.out.1
                  omega)
                rw [List.drop_drop] at h
                rw [show 2 * (j + 1) = 2 * j + 2 by omega]
                exact h
              have HX3 := Lib.hid hl5
              have HX4 := Lib.hid (hob1.trans HOB.out)
              have HX5 := Lib.hid (hgb4.far' hg5 (by have := HSF.out.1; omega))
              have HX6 := Lib.hid (h64.far' hg5 (by have := HSF.out.2.1; omega))
              have HX7 := Lib.hid (hb4.trans (grown_below hg5 hb4.size (fun k e => by cases e; exact Nat.le_of_lt HSF.out.2.1)))
              clear hb5 hC4 hg4 hg5 hl5 hl4 hgb4 h64 hb4 hg4' hps1 hgb1 h61 hb1 hsz1 hbA hsl hps2 hg2 hl2 hgb2 h62 hb2 hbase hg1 hl1 hob1 hgr1 hz0 e5 hi4 hts htk
              go_wp2_with fail
              exact ⟨⟨j + 1, v4x, v4c, l1, by omega, by go_num, HX1.out, HX2.out, HX3.out, HX4.out, HX5.out, HX6.out, HX7.out⟩, by simp [intOf]; omega⟩
        · obtain rfl : b0 = j := by omega
          have hsf := HSF.out
          have hdl : (T.drop (2 * b0)).length = 4 := by rw [List.length_drop, HTL.out]; omega
          obtain ⟨y, hy⟩ : ∃ y, valB ((T.drop (2 * b0)).take 4) = y := ⟨_, rfl⟩
          have hyb : 0 ≤ y ∧ y < 4294967296 := by
            rw [← hy]
            have h1 := valB_nn ((T.drop (2 * b0)).take 4)
            have h2 : ((T.drop (2 * b0)).take 4).length = 4 := by rw [List.length_take, hdl]; rfl
            rw [h2] at h1
            exact ⟨h1.1, Int.lt_of_lt_of_le h1.2 (by decide)⟩
          have htk := rdTake_any slot st px b0 pc 0 g9 lj (T.drop (2 * b0)) 4 wA h9 hlj (by omega) (by decide)
          rw [hy] at htk
          have hpar : parsed slot st b0 B = ⟨slot, st, twos b0 T, y⟩ := by
            refine (rt_ext _ _).1 ⟨rfl, rfl, ?_, ?_⟩
            · show valB ((B.drop (1 + 2 * b0)).take 4) = y
              rw [← hy, HBT.out, Nat.add_comm 1]; rfl
            · show twos b0 (B.drop 1) = twos b0 T
              rw [HBT.out]; rfl
          have hpo : (if rightB ⟨slot, st, twos b0 T, y⟩ = true then some (⟨slot, st, twos b0 T, y⟩ : Rt) else none) = o := by
            rw [← HO.out]
            unfold parseR
            rw [HB0.out, hpar]
            by_cases hq : rightB ⟨slot, st, twos b0 T, y⟩ = true
            · rw [if_pos hq, if_pos ⟨by rw [HN.out, HLEN.out], hq⟩]
            · rw [if_neg hq, if_neg (fun h => hq h.2)]
          have hRW : RtW ⟨slot, st, twos b0 T, y⟩ := ⟨hs1, hs2, hst, by show _ ≤ y; omega, by show y ≤ _; omega, fun z hz => by
            obtain ⟨i, _, rfl⟩ := List.mem_map.1 hz
            have h1 := valB_nn ((T.drop (2 * i)).take 2)
            have h2 : ((T.drop (2 * i)).take 2).length ≤ 2 := by rw [List.length_take]; omega
            have h3 : (256 : Int) ^ ((T.drop (2 * i)).take 2).length ≤ 65536 := by
              have : ((T.drop (2 * i)).take 2).length = 0 ∨ ((T.drop (2 * i)).take 2).length = 1 ∨ ((T.drop (2 * i)).take 2).length = 2 := by omega
              rcases this with e | e | e <;> rw [e] <;> decide
            omega, by show (twos b0 T).length ≤ 1000; rw [twos_len]; omega⟩
          obtain ⟨q, hq⟩ : ∃ q, rightB ⟨slot, st, twos b0 T, y⟩ = q := ⟨_, rfl⟩
          rw [hq] at hpo
          have HPO := Lib.hid hpo
          have HCK := Lib.hid (fun W v h => rtCheck_any ⟨slot, st, twos b0 T, y⟩ v W h hRW)
          rw [hq] at HCK
          have hsw := hbw.size
          clear hpo hpar hRW hq hy
          go_wp2_with fail
          refine htk.mono ?_
          rintro e z1 ⟨rfl, ⟨l1, hg1, _, _⟩, hgr1⟩
          have hps1 : z1.ownsRow (w.heap.size + 1) 3 1 (.slice px b0 pc) b0 (iC (twos b0 T)) := hps.kept hgr1 (own_apart hps h9 (by decide))
          have h61 := h6.far' hgr1 (by omega)
          have hb1 := hbw.trans (grown_below hgr1 hsw (fun j e => by cases e; omega))
          go_upto_region 12 with (refine Agg.gStoreCell 3 (.int .i64 y) hg1 rfl rfl rfl rfl rfl (by kernel_rfl) rfl (by simp) rfl (fun w5 hb5 hg5 => ?_))
          have e5 : spliced [.int .i64 slot, .int .u64 (st : Int), .slice px b0 pc, .int .i64 0, l1] 3 [.int .i64 y] = [.int .i64 slot, .int .u64 (st : Int), .slice px b0 pc, .int .i64 y, l1] := rfl
          rw [e5] at hb5
          have HPS5 := Lib.hid (hps1.kept hg5 (own_apart hps1 hg1 (by decide)))
          have H65 := Lib.hid (h61.far' hg5 (by omega))
          have HB5 := Lib.hid (hb1.trans (grown_below hg5 hb1.size (fun j e => by cases e; omega)))
          have H95 := Lib.hid hb5
          clear hb5 hg5 e5 hg1 hgr1 hps1 h61 hb1 h9 hps hlj hob hgb h6 hbw htk hdl
          have HV : Hid (RtR w5 (.agg #[.int .i64 slot, .int .u64 (st : Int), .slice px b0 pc, .int .i64 y]) ⟨slot, st, twos b0 T, y⟩) := Lib.hid ⟨.slice px b0 pc, rfl, by
            show SlR _ _ 1 (twos b0 T).length _
            rw [twos_len]
            exact ownSl HPS5.out⟩
          have HB := HB5
          clear HB5
          have h95 := H95.out
          have hld := fun (i : Nat) (v : Value) (hi : ([.int .i64 slot, .int .u64 (st : Int), .slice px b0 pc, .int .i64 y] : List Value)[i]? = some v) => show w5.cell? ⟨g9, 0 + i, none⟩ = some v by
            rw [h95.cell, Nat.zero_add]
            have hl := (List.getElem?_eq_some_iff.1 hi).1
            rw [← hi]
            exact List.getElem?_append_left (l₂ := [l1]) hl
          go_wp2_with (refine Agg.gLoad 4 [.int .i64 slot, .int .u64 (st : Int), .slice px b0 pc, .int .i64 y] rfl rfl rfl (by decide +kernel) rfl hld ?_; simp only [Act.put, List.setIfInBounds_toArray, List.set_cons_succ, List.set_cons_zero])
          clear h95 hld
          refine (HCK.out w5 _ HV.out).mono ?_
          rintro e w61 ⟨rfl, hb⟩
          replace HB := Lib.hid (HB.out.trans (hb.mono HB.out.size))
          replace HV := Lib.hid (HV.out.keep hb)
          replace HPS5 := Lib.hid (HPS5.out.keep hb)
          replace H65 := Lib.hid (H65.out.keep hb)
          replace H95 := Lib.hid (H95.out.keep hb)
          clear hb
          have hsz := HB.out.size
          have h65 := H65.out
          cases q
          · have hno : o = none := by rw [← HPO.out]; rfl
            subst hno
            obtain rfl : ec = 330 := by rw [← HEC.out]; rfl
            go_wp2_with (first
              | (refine Agg.gStoreB 4 [.int .i64 0, .int .u64 0, .slice none 0 0, .int .i64 0] h65 rfl rfl rfl rfl rfl (by decide +kernel) rfl rfl (by simp [Value.oneCell']) (fun w14 hb14 hg14 => ?_)))
            refine bodyPost_ret (results_row2 (m := 4) rfl hb14 rfl (by decide +kernel) rfl) rfl ⟨_, rfl, rt0_o _ _, HB.out.trans (grown_below hg14 hsz (fun j hj => by cases hj; exact Nat.le_refl _))⟩
          · have hso : o = some ⟨slot, st, twos b0 T, y⟩ := by rw [← HPO.out]; rfl
            subst hso
            obtain rfl : ec = 0 := by rw [← HEC.out]; rfl
            have h95 := H95.out
            have hld := fun (i : Nat) (v : Value) (hi : ([.int .i64 slot, .int .u64 (st : Int), .slice px b0 pc, .int .i64 y] : List Value)[i]? = some v) => show w61.cell? ⟨g9, 0 + i, none⟩ = some v by
              rw [h95.cell, Nat.zero_add]
              have hl := (List.getElem?_eq_some_iff.1 hi).1
              rw [← hi]
              exact List.getElem?_append_left (l₂ := [l1]) hl
            go_wp2_with (first
              | (refine Agg.gLoad 4 [.int .i64 slot, .int .u64 (st : Int), .slice px b0 pc, .int .i64 y] rfl rfl rfl (by decide +kernel) rfl hld ?_; simp only [Act.put, List.setIfInBounds_toArray, List.set_cons_succ, List.set_cons_zero])
              | (refine Agg.gStoreB 4 [.int .i64 slot, .int .u64 (st : Int), .slice px b0 pc, .int .i64 y] h65 rfl rfl rfl rfl rfl (by decide +kernel) rfl rfl (by simp [Value.oneCell']) (fun w14 hb14 hg14 => ?_)))
            refine bodyPost_ret (results_row2 (m := 4) rfl hb14 rfl (by decide +kernel) rfl) rfl ⟨_, rfl, ⟨.slice px b0 pc, rfl, ?_⟩, HB.out.trans (grown_below hg14 hsz (fun j hj => by cases hj; exact Nat.le_refl _))⟩
            show World.ownsRow _ _ _ 1 _ (twos b0 T).length _
            rw [twos_len]
            exact own_base (HPS5.out.kept hg14 (own_off HPS5.out (by omega))) (by omega)
    · have hno : o = none := by rw [← HO.out]; unfold parseR; rw [if_neg (fun h => hlen (by have := h.1; rw [HN.out, HB0.out] at this; exact this))]
      subst hno
      obtain rfl : ec = 330 := by rw [← HEC.out]; rfl
      have hd : ((n : Int) != 1 + 2 * (b0 : Int) + 4) = true := by simp; omega
      have h6 := H6.out
      have hsz := HB.out.size
      clear hmf
      go_wp2_with (first
        | (refine Agg.gStoreB 4 [.int .i64 0, .int .u64 0, .slice none 0 0, .int .i64 0] h6 rfl rfl rfl rfl rfl (by decide +kernel) rfl rfl (by simp [Value.oneCell']) (fun w14 hb14 hg14 => ?_)))
      refine bodyPost_ret (results_row2 (m := 4) rfl hb14 rfl (by decide +kernel) rfl) rfl ⟨_, rfl, rt0_o _ _, HB.out.trans (grown_below hg14 hsz (fun j hj => by cases hj; exact Nat.le_refl _))⟩
end Go.Proofs.Ytjnnnnolikbjcaa
