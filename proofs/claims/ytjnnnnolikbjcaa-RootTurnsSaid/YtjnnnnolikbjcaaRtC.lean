/-
  REGIONS IN A FENCE: a head that is walked in the text's order, the rest (a round that is begun) in the fence. Over any program.
-/
import Derived.Test.YtjnnnnolikbjcaaIter4
import Derived.Test.YtjnnnnolikbjcaaChain2
section
namespace Agg
open Go Go.RowKit
theorem chainW {P : Program} {Q : Exit → Act → World → Prop} {l : List Oper} {l0 : List Value} {ds : List Deferred} {w : World} (n : Nat) (hB : (freeB l.toArray l0.length && decide (n ≤ l.length)) = true)
    (h : Chain n P l.toArray w ⟨l0.toArray, ds⟩ [] (l.take n) fun acc => ∀ (vs : Nat → Value) (w' : World), Below w.heap.size w w' → Facts acc vs 0 w' → wpList P l.toArray Q (l.drop n) ⟨(fill (l.take n) acc vs 0 l0).toArray, ds⟩ w') :
    wpList P l.toArray Q l ⟨l0.toArray, ds⟩ w := by
  simp only [Bool.and_eq_true, decide_eq_true_eq] at hB
  obtain ⟨hfree, hnl⟩ := hB
  obtain ⟨acc, hl, hf, hs⟩ := Chain.all _ _ h
  simp only [List.nil_append] at hf hs
  have htl : (l.take n).length = n := by rw [List.length_take]; omega
  have hal : acc.length = n := by rw [hl, htl]
  have := list_any (P := P) (Q := Q) (l := l) (W := w) (a0 := ⟨l0.toArray, ds⟩) (acc := acc) (n := n) (by simpa using hfree) hnl ?_ ?_ (fun a w' inv => chain_fin (w := w) hfree hnl hal hf inv) n 0 ⟨l0.toArray, ds⟩ w (by omega) ?_
  · simpa using this
  · intro r hr
    obtain ⟨j, hj, rfl⟩ := List.mem_iff_getElem.1 hr
    have hj2 : j < (l.take n).length := by omega
    obtain ⟨r, h1, h2, _⟩ := hs j _ (List.getElem?_eq_getElem hj2)
    rw [List.getElem?_eq_getElem hj] at h1
    rw [Option.some.inj h1]; exact h2
  · intro i o hi ho
    have ho' : (l.take n)[i]? = some o := by rw [List.getElem?_take_of_lt hi]; exact ho
    have ho2 : l.toArray[i]? = some o := by simpa using ho
    obtain ⟨r, h1, _, h3⟩ := hs i o ho'
    refine ⟨r, h1, ?_⟩
    split
    · rename_i hp
      rw [if_pos hp] at h3
      intro a w hh
      exact h3 a w (here_prefix (by simpa using hfree) ho2 hh)
    · rename_i hp
      rw [if_neg hp] at h3
      intro Q a w hh
      exact h3 Q a w (here_prefix (by simpa using hfree) ho2 hh)
  · refine ⟨Below.refl _ _, rfl, rfl, by simp [headListed], fun t _ => rfl, fun j oj hj hl => ?_⟩
    exfalso
    unfold headListed at hl
    rw [Array.getD_eq_getD_getElem?, List.getElem?_toArray] at hl
    simp [List.getElem?_replicate] at hl
    split at hl <;> simp at hl
theorem Chain.fin_mono {n : Nat} {P : Program} {ops : Array Oper} {W : World} {a0 : Act} {fin fin' : List R → Prop} (hf : ∀ acc, fin acc → fin' acc) : ∀ (rest : List Oper) (acc : List R), Chain n P ops W a0 acc rest fin → Chain n P ops W a0 acc rest fin'
  | [], _, h => hf _ h
  | _ :: rest, _, ⟨r, h1, h2, h3⟩ => ⟨r, h1, h2, Chain.fin_mono hf rest _ h3⟩
theorem oper_wide {n : Nat} {P : Program} {o : Oper} {a : Act} {w : World} {next next' : Act → World → Prop} {Q Q' : Exit → Act → World → Prop} (hd : noDefer o = true) (hn : ∀ a w, next a w → next' a w) (hQ : ∀ c a w, Q (.panic c) a w → Q' (.panic c) a w) (hL : LetsOut Q → LetsOut Q') (h : o.wp P a w next Q) : o.wpIn Fence.wide n P a w next' Q' := by
  refine ⟨fun _ _ => trivial, ?_⟩
  unfold Oper.wp at h
  show o.uponIn Fence.wide n P a next' Q' ((o.semAt none a.eval).run P w)
  rw [Oper.semAt_none]
  revert h
  cases (execOp a.eval o).run P w with
  | ok v w' =>
    cases v with
    | value v => exact hn _ _
    | skip => exact hn _ _
    | defer d => exact hn _ _
    | enter f args =>
      intro h
      refine ⟨fun e => (by cases e), (callsIn_wide (n := n - 1)).2 (Calls.mono h ?_)⟩
      rintro e w2 h2
      cases e with
      | returned v => exact hn _ _ h2
      | panicked c => exact hQ _ _ _ h2
      | outgrown => exact hL h2
    | row row args =>
      intro h
      refine ⟨fun e => (by cases e), ?_⟩
      exact rowsIn_wide (Rows.mono h fun v w2 h2 => hn _ _ h2)
    | _ => exact fun h => h.elim
  | halt s w' =>
    cases s with
    | panic v => exact fun h => hQ _ _ _ h
    | _ => exact fun h => h.elim
def gdB (N : Nat) (o : Oper) : Bool := noDefer o && (match o.guard with | some (j, _) => decide (j < N) | none => true)
theorem wanted_take {l : List Oper} {N : Nat} {o : Oper} {t : Array Value} (h : gdB N o = true) : Region.wanted o (yielded (l.take N).toArray t) = Region.wanted o (yielded l.toArray t) := by
  unfold gdB at h
  cases hg : o.guard with
  | none => simp [Region.wanted, hg]
  | some x =>
    obtain ⟨j, b⟩ := x
    rw [hg] at h
    simp only [Bool.and_eq_true, decide_eq_true_eq] at h
    have e : yielded (l.take N).toArray t j = yielded l.toArray t j := by
      unfold yielded
      have e2 : (l.take N).toArray[j]? = l.toArray[j]? := by
        rw [List.getElem?_toArray, List.getElem?_toArray, List.getElem?_take_of_lt h.2]
      rw [e2]
    simp only [Region.wanted, hg, e]
theorem head_in {n N : Nat} {P : Program} {l l2 : List Oper} {Q : Exit → Act → World → Prop} : ∀ (l1 : List Oper) (a : Act) (w : World), l1.all (gdB N) = true → wpList P (l.take N).toArray (fun e a w => e = .normal ∧ wpListIn Fence.wide n P l.toArray Q l2 a w) l1 a w → wpListIn Fence.wide n P l.toArray Q (l1 ++ l2) a w
  | [], _, _, _, h => h.2
  | o :: rest, a, w, hd, h => by
    simp only [List.all_cons, Bool.and_eq_true] at hd
    unfold wpList at h
    show wpListIn Fence.wide n P l.toArray Q (o :: (rest ++ l2)) a w
    unfold wpListIn
    rw [wanted_take hd.1] at h
    have hnd : noDefer o = true := by have := hd.1; unfold gdB at this; rw [Bool.and_eq_true] at this; exact this.1
    by_cases hw : Region.wanted o (yielded l.toArray a.tmps) = true
    · rw [if_pos hw] at h ⊢
      rcases h with h | ⟨_, h⟩
      · exact oper_wide hnd (fun a w h => head_in rest a w hd.2 h) (fun _ _ _ h => by cases h.1) (fun ⟨_, _, h⟩ => by cases h.1) h
      · obtain ⟨_, _, h⟩ := h; cases h.1
    · rw [if_neg hw] at h ⊢
      exact ⟨fun _ _ => trivial, head_in rest _ w hd.2 h⟩
/-- a region in a fence: the head in the text's order -/
theorem listIn {n id : Nat} {P : Program} {Q : Exit → Act → World → Prop} {l : List Oper} {l0 : List Value} {ds : List Deferred} {w : World} (N : Nat) (hB : (freeB (l.take N).toArray l0.length && decide (N ≤ l.length) && (l.take N).all (gdB N)) = true)
    (h : ChainR N P (l.take N).toArray w ⟨l0.toArray, ds⟩ 0 [] (l.take N) fun acc => ∀ (vs : Nat → Value) (w' : World), Below w.heap.size w w' → Facts acc vs 0 w' → wpListIn Fence.wide n P l.toArray Q (l.drop N) ⟨(fill (l.take N) acc vs 0 l0).toArray, ds⟩ w') :
    (Code.region id l.toArray false).wpIn Fence.wide n P Q ⟨l0.toArray, ds⟩ w := by
  simp only [Bool.and_eq_true, decide_eq_true_eq] at hB
  obtain ⟨⟨h1, h2⟩, h3⟩ := hB
  have hl : (l.take N).length = N := by rw [List.length_take]; omega
  have htt : (l.take N).take N = l.take N := List.take_of_length_le (by omega)
  have hdd : (l.take N).drop N = [] := List.drop_eq_nil_of_le (by omega)
  refine wpIn_region_lit ?_
  have := head_in (n := n) (N := N) (P := P) (l := l) (l2 := l.drop N) (Q := Q) (l.take N) ⟨l0.toArray, ds⟩ w h3 (chainW (l := l.take N) N (by rw [h1]; simp [hl]) (by
    rw [htt]
    refine Chain.fin_mono ?_ _ _ (h rfl)
    intro acc hacc vs w' hb hf
    rw [hdd]
    exact ⟨rfl, hacc vs w' hb hf⟩))
  rwa [List.take_append_drop] at this
end Agg
end
section
/-
  ROOTS: those that stand, told by an iterator.
-/
namespace Go.Proofs.Ytjnnnnolikbjcaa
open Go.ChangeShapes Go.WideShapes Go.ChangeAt Go.RowKit Agg Pg Dv
attribute [local go_sem] Oper.semAt_some

theorem rdev_agr {w w' : World} {v : Value} {d : Dev} (h : DevR w v d) (ha : Agr w.heap.size w w') : DevR w' v d := by
  obtain ⟨x, y, c1, c2, h1, h2, h3⟩ := h
  exact ⟨x, y, c1, c2, h1, SlR.agr h2 ha, SlR.agr h3 ha⟩
/-- the roots that stand in the first slots -/
noncomputable def stP (d : Dev) : Nat → List Rt
  | 0 => []
  | 1 => (inR d 0).toList
  | _ => (inR d 0).toList ++ (inR d 1).toList
theorem stP_none {d : Dev} {i : Nat} (hi : i < 2) (h : inR d (i : Int) = none) : (stP d (i + 1)).length = (stP d i).length := by
  have : i = 0 ∨ i = 1 := by omega
  rcases this with rfl | rfl
  · show (inR d 0).toList.length = 0
    have h' : inR d 0 = none := h
    rw [h']; rfl
  · show ((inR d 0).toList ++ (inR d 1).toList).length = (inR d 0).toList.length
    have h' : inR d 1 = none := h
    rw [h', List.length_append]; rfl
theorem stP_some {d : Dev} {i : Nat} {r : Rt} (hi : i < 2) (h : inR d (i : Int) = some r) : (stP d (i + 1)).length = (stP d i).length + 1 ∧ ∃ hk : (stP d i).length < (stP d 2).length, (stP d 2)[(stP d i).length] = r := by
  have : i = 0 ∨ i = 1 := by omega
  rcases this with rfl | rfl
  · have h' : inR d 0 = some r := h
    refine ⟨?_, ?_⟩
    · show (inR d 0).toList.length = 0 + 1
      rw [h']; rfl
    · have e : stP d 2 = r :: (inR d 1).toList := by
        show (inR d 0).toList ++ (inR d 1).toList = _
        rw [h']; rfl
      rw [e]
      exact ⟨Nat.succ_pos _, rfl⟩
  · have h' : inR d 1 = some r := h
    have e : stP d 2 = (inR d 0).toList ++ [r] := by
      show (inR d 0).toList ++ (inR d 1).toList = _
      rw [h']; rfl
    refine ⟨?_, ?_⟩
    · show (stP d 2).length = (inR d 0).toList.length + 1
      rw [e, List.length_append]; rfl
    · rw [e]
      exact ⟨by show (inR d 0).toList.length < _; rw [List.length_append]; exact Nat.lt_succ_self _, List.getElem_concat_length rfl _⟩
/-- a root, as it is told -/
def EncR (A W : World) (r : Rt) (vs : Array Value) : Prop := ∃ v, vs = #[v] ∧ RtO A.heap.size W v r
def KpR (n0 gd : Nat) (A B : World) : Prop := A.heap.size ≤ B.heap.size ∧ Agr n0 A B ∧ B.heap[gd]? = A.heap[gd]?
theorem KpR.trans {n0 gd : Nat} {A B C : World} (h1 : KpR n0 gd A B) (h2 : KpR n0 gd B C) : KpR n0 gd A C := ⟨Nat.le_trans h1.1 h2.1, h1.2.1.trans h2.2.1, h2.2.2.trans h1.2.2⟩
theorem standing_any (a b c e : Value) (w : World) :
    Calls Try.prog 38 #[.agg #[a, b, c, e]] w fun r w' => r = .returned (.func (.func 65) #[] #[.pointer (some ⟨w.heap.size, 0, none⟩)]) ∧ Blk w' w.heap.size 30 [a, b, c, e] ∧ Below w.heap.size w w' := by
  have HB := Lib.hid (Below.refl w.heap.size w)
  go_enter Try.func38, Try.ntmps38
  have hmf : ∀ (fn : Fn) (first cap : Array Value) (w : World), (Instr.makeFunc fn first cap).run Try.prog w = .ok (.func fn first cap) w := fun _ _ _ _ => rfl
  go_wp2_with fail
  go_ret
  exact ⟨rfl, Blk.new w 30 #[a, b, c, e], bel_alloc HB.out _⟩
set_option maxHeartbeats 4000000 in
set_option maxRecDepth 100000 in
theorem standing_iter (d : Dev) (px cx : Option Addr) (pc cc gd : Nat) (w0 : World) (hd : DGood d) (hc : d.cache.length ≤ 1000000) (hr : rightD d = true) (ho : d.off = false)
    (hD : DevR w0 (.agg #[.slice px d.pages.length pc, .slice cx d.cache.length cc, .int .i64 d.fuse, .bool d.off]) d) :
    IterR Try.prog 65 #[.pointer (some ⟨gd, 0, none⟩)] EncR (fun A B => Below A.heap.size A B) (KpR w0.heap.size gd) (stP d 2)
      (fun W => w0.heap.size ≤ W.heap.size ∧ Agr w0.heap.size w0 W ∧ Blk W gd 30 [.slice px d.pages.length pc, .slice cx d.cache.length cc, .int .i64 d.fuse, .bool d.off]) := by
  intro lr J Jx W hok hJ hJx hY h0
  have HJ := Lib.hid hJ
  have HD0 := Lib.hid hD
  have HOK := Lib.hid hok
  have H00 := Lib.hid h0
  have HYY : Hid (∀ (i : Nat) (r : Rt), i < 2 → inR d (i : Int) = some r → ∀ (A W1 : World) (vs : Array Value), J (stP d i).length A → Below A.heap.size A W1 → EncR A W1 r vs → YieldAt Fence.wide 1 Try.prog lr vs W1 fun e W' => (e = .returned (.bool true) ∧ J (stP d (i + 1)).length W' ∧ KpR w0.heap.size gd W1 W') ∨ (e = .returned (.bool false) ∧ Jx (stP d (i + 1)).length W')) := Lib.hid (fun i r hi h A W1 vs hj hab he => by
    obtain ⟨e1, hk, e2⟩ := stP_some hi h
    rw [e1]
    exact hY _ hk A W1 vs hj hab (by rw [e2]; exact he))
  have HLE : Hid (∀ (i : Nat) (r : Rt), i < 2 → inR d (i : Int) = some r → (stP d (i + 1)).length ≤ (stP d 2).length) := Lib.hid (fun i r hi h => by
    obtain ⟨e1, hk, _⟩ := stP_some hi h
    omega)
  have HNO : Hid (∀ i : Nat, i < 2 → inR d (i : Int) = none → (stP d (i + 1)).length = (stP d i).length) := Lib.hid (fun i hi h => stP_none hi h)
  have HIN := Lib.hid (fun (i : Nat) (hi : i < 2) W v (h : DevR W v d) o (hio : inR d (i : Int) = o) ec hec => in_any d (i : Int) v W hd hc h hr ho (by omega) o hio ec hec)
  clear hJ hJx hY hok h0 hd hD hr ho
  go_enter Try.func65, Try.ntmps65
  go_step3
  go_wp2_with fail
  go_step3
  go_wp2_with fail
  go_loopw [6] (fun i wr => ∃ k : Nat, k ≤ 2 ∧ i = .int .i64 (k : Int) ∧ w0.heap.size ≤ wr.heap.size ∧ Agr w0.heap.size w0 wr ∧ Blk wr gd 30 [.slice px d.pages.length pc, .slice cx d.cache.length cc, .int .i64 d.fuse, .bool d.off] ∧ J (stP d k).length wr) (fun i _ => 2 - (intOf i).toNat)
  case atStart => exact ⟨0, by omega, rfl, HOK.out.1, HOK.out.2.1, HOK.out.2.2, H00.out⟩
  case round =>
    obtain ⟨k, hk, rfl, h1, h2, h4, h5⟩ := hrel
    have HA := Lib.hid h2
    have HGD := Lib.hid h4
    have HJ1 := Lib.hid h5
    clear h2 h4 h5 HOK H00
    obtain ⟨wA, hwA⟩ : ∃ x, x = wr := ⟨_, rfl⟩
    subst hwA
    by_cases hlt : k < 2
    · have HD := Lib.hid (rdev_agr HD0.out HA.out)
      obtain ⟨o, hio⟩ : ∃ o, inR d (k : Int) = o := ⟨_, rfl⟩
      have HIO := Lib.hid hio
      obtain ⟨ec, hec⟩ : ∃ e : Int, (if o.isSome then (0 : Int) else 331) = e := ⟨_, rfl⟩
      have HEC := Lib.hid hec
      have HI2 := Lib.hid (fun W v h => HIN.out k hlt W v h o hio ec hec)
      clear hio hec
      have HB := Lib.hid (Below.refl wA.heap.size wA)
      have hgd := HGD.out
      go_wp2_with (refine Agg.gLoadB 4 hgd rfl rfl rfl rfl (by decide +kernel) ?_; simp only [Act.put, List.setIfInBounds_toArray, List.set_cons_succ, List.set_cons_zero])
      clear hgd
      have hszA := HB.out.size
      refine (HI2.out wA _ HD.out).mono ?_
      rintro e w21 ⟨v, rfl, hv, hb⟩
      replace HB := Lib.hid (HB.out.trans (hb.mono HB.out.size))
      replace HD := Lib.hid (HD.out.keep hb)
      replace HGD := Lib.hid (HGD.out.keep hb)
      clear hb
      have HV := Lib.hid (hv.base hszA)
      obtain ⟨sl, hvv, hvo⟩ := hv
      unfold rtV at hvv
      subst hvv
      obtain ⟨x2, c2, rfl, _, _⟩ := (ownSl hvo).shape
      clear hvo HI2 hszA
      obtain ⟨r2, hr2⟩ : ∃ r2, o.getD rt0 = r2 := ⟨_, rfl⟩
      have HR2 := Lib.hid hr2
      rw [hr2] at HV
      rw [hr2]
      clear hr2
      go_upto_region 4 with (first
        | (refine Agg.allocRow 26 #[.int .i64 0, .int .u64 0, .slice none 0 0, .int .i64 0] rfl rfl (by kernel_rfl) ?_; simp only [Act.put, List.setIfInBounds_toArray, List.set_cons_succ, List.set_cons_zero])
        | (refine Agg.gStoreNew 4 [.int .i64 r2.slot, .int .u64 (r2.stamp : Int), .slice x2 r2.pages.length c2, .int .i64 r2.bytes] rfl rfl rfl rfl rfl rfl (by decide +kernel) rfl rfl (by simp [Value.oneCell']) ?_; simp only [Act.put]))
      refine Agg.wp_at fun w22 hw22 => ?_
      have hb : Below w21.heap.size w21 w22 := by rw [hw22.out]; repeat (first | exact Below.refl _ _ | refine Agg.bel_drew ?_ | refine Agg.bel_alloc ?_ _)
      replace HB := Lib.hid (HB.out.trans (hb.mono HB.out.size))
      replace HD := Lib.hid (HD.out.keep hb)
      replace HGD := Lib.hid (HGD.out.keep hb)
      replace HV := Lib.hid (HV.out.keep hb)
      clear hb
      have H4 : Hid (Blk w22 w21.heap.size 26 [.int .i64 r2.slot, .int .u64 (r2.stamp : Int), .slice x2 r2.pages.length c2, .int .i64 r2.bytes]) := by show Blk _ _ _ _; rw [hw22.out]; exact Blk.new w21 26 #[.int .i64 r2.slot, .int .u64 (r2.stamp : Int), .slice x2 r2.pages.length c2, .int .i64 r2.bytes]
      clear hw22
      generalize w21.heap.size = g4 at *
      by_cases hn : o = none
      · obtain rfl : ec = 331 := by rw [← HEC.out, hn]; rfl
        have HJ2 := Lib.hid (HJ.out _ _ _ HJ1.out HB.out)
        have HL := Lib.hid (HNO.out k hlt (HIO.out.trans hn))
        have HA2 := Lib.hid (HA.out.trans ((agr_below HB.out).mono h1))
        have hs2 := Nat.le_trans h1 HB.out.size
        clear hn
        go_wp2_with fail
        exact ⟨⟨k + 1, by omega, by go_num, hs2, HA2.out, HGD.out, by rw [HL.out]; exact HJ2.out⟩, by simp [intOf]; omega⟩
      · obtain ⟨r, hor⟩ := Option.ne_none_iff_exists'.1 hn
        obtain rfl : ec = 0 := by rw [← HEC.out, hor]; rfl
        obtain rfl : r = r2 := by rw [← HR2.out, hor]; rfl
        have hir := HIO.out.trans hor
        have hy0 := HYY.out k r hlt hir
        have hle := HLE.out k r hlt hir
        clear hor hn hir
        go_upto_region 5 with (fail)
        refine (wpIn_wide (n := 2)).1 ?_
        refine Agg.listIn 2 (by kernel_rfl) ?_
        simp only [List.take_succ_cons, List.take_zero, List.drop_succ_cons, List.drop_zero]
        refine Agg.chMove rfl rfl rfl rfl ?_
        refine Agg.chRowB 4 H4.out rfl (by decide +kernel) rfl rfl rfl rfl ?_
        refine Agg.chEnd ?_
        intro vs w23 hb _
        simp only [List.reverse, List.reverseAux, Agg.fill, List.set_cons_succ, List.set_cons_zero]
        replace HB := Lib.hid (HB.out.trans (hb.mono HB.out.size))
        replace HD := Lib.hid (HD.out.keep hb)
        replace HGD := Lib.hid (HGD.out.keep hb)
        replace HV := Lib.hid (HV.out.keep hb)
        replace H4 := Lib.hid (H4.out.keep hb)
        clear hb
        have henc : EncR wA w23 r #[.agg #[.int .i64 r.slot, .int .u64 (r.stamp : Int), .slice x2 r.pages.length c2, .int .i64 r.bytes]] := ⟨_, rfl, HV.out⟩
        obtain ⟨fn, tmps, assign, body, hy, hR⟩ := hy0 wA w23 _ HJ1.out HB.out henc
        clear henc hy0
        gi_wp2
        refine hR.mono ?_
        rintro e W2 (⟨rfl, hj2, hk2⟩ | ⟨rfl, hjx2⟩)
        · have HJ3 := Lib.hid hj2
          have HA3 : Hid (Agr w0.heap.size w0 W2) := Lib.hid ((HA.out.trans ((agr_below HB.out).mono h1)).trans hk2.2.1)
          have HGD3 : Hid (Blk W2 gd 30 [.slice px d.pages.length pc, .slice cx d.cache.length cc, .int .i64 d.fuse, .bool d.off]) := Lib.hid (hk2.2.2.trans HGD.out)
          have hs3 : w0.heap.size ≤ W2.heap.size := Nat.le_trans (Nat.le_trans h1 HB.out.size) hk2.1
          clear hj2 hk2 hR hy
          gi_wp2
          go_wp2_with fail
          exact ⟨⟨k + 1, by omega, by go_num, hs3, HA3.out, HGD3.out, HJ3.out⟩, by simp [intOf]; omega⟩
        · have HJX2 := Lib.hid hjx2
          clear hjx2 hR hy
          gi_wp2
          go_wp2_with fail
          rw [Exit.noGoto_ret]
          refine bodyPost_ret (results_none rfl _ _ _) rfl ?_
          exact ⟨⟨_, rfl⟩, .inr ⟨_, hle, HJX2.out⟩⟩
    · obtain rfl : k = 2 := by omega
      go_wp2_with fail
      rw [Exit.noGoto_normal]
      go_end0
      exact ⟨⟨_, rfl⟩, .inl HJ1.out⟩
end Go.Proofs.Ytjnnnnolikbjcaa
end
