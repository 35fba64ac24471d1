/-
  THE LOG: a device that is put to groups one behind the other.
-/
import Derived.Test.YtlddjcilbpcciaaLhQ
namespace Lg
open Go Go.RowKit Agg Pg Dv
theorem results_cscs {P : Program} {fn : Func} {p u q v : Tmp} {ty ty2 : TypeId} (h : fn.results = #[.cell p ty, .tmp u, .cell q ty2, .tmp v]) {tmps : Array Value} {w : World} {m g m2 g2 : Nat} {T T2 : TypeId} {cs cs2 : List Value} (H : Blk w g T cs) (hp : tmps.getD p undef = .pointer (some ⟨g, 0, none⟩)) (ht : aggT P ty m = true) (hm : cs.length = m)
    (H2 : Blk w g2 T2 cs2) (hq : tmps.getD q undef = .pointer (some ⟨g2, 0, none⟩)) (ht2 : aggT P ty2 m2 = true) (hm2 : cs2.length = m2) :
    (results fn tmps).run P w = .ok (.tuple #[.agg cs.toArray, tmps.getD u undef, .agg cs2.toArray, tmps.getD v undef]) w := by
  have hp' : tmps[p]?.getD undef = .pointer (some ⟨g, 0, none⟩) := by simpa using hp
  have hq' : tmps[q]?.getD undef = .pointer (some ⟨g2, 0, none⟩) := by simpa using hq
  simp [results, h, hp', hq', asAddr, run_row H ht hm, run_row H2 ht2 hm2]
end Lg
namespace Go.Proofs.Ytlddjcilbpcciaa
open Go.ChangeShapes Go.WideShapes Go.ChangeAt Go.RowKit Agg Pg Dv Lg
attribute [local go_sem] Oper.semAt_some

/-- groups in a row of its own; their bytes lay there before -/
def OutI (w0 w : World) (b : Nat) (u : Value) (gs : List (List UInt8)) : Prop := ∃ vs : List Value, w.ownsRow b 37 1 u gs.length vs ∧ vs.length = gs.length ∧ ∀ (i : Nat) (v : Value) (g : List UInt8), vs[i]? = some v → gs[i]? = some g → Bytes w0 v g
theorem OutI.keep {w0 w w' : World} {b : Nat} {u : Value} {gs : List (List UInt8)} (h : OutI w0 w b u gs) (hb : Below w.heap.size w w') : OutI w0 w' b u gs := by
  obtain ⟨vs, h1, h2, h3⟩ := h
  exact ⟨vs, h1.keep hb, h2, h3⟩
theorem OutI.grown {w0 w w' : World} {b k : Nat} {u : Value} {gs : List (List UInt8)} (h : OutI w0 w b u gs) (hg : w.grownBy w' (some k)) (hk : k < b) : OutI w0 w' b u gs := by
  obtain ⟨vs, h1, h2, h3⟩ := h
  exact ⟨vs, h1.kept hg (own_off h1 hk), h2, h3⟩
theorem OutI.rows {w0 w : World} {b : Nat} {u : Value} {gs : List (List UInt8)} (h : OutI w0 w b u gs) (hb : Below w0.heap.size w0 w) : Rows2 w u gs := by
  obtain ⟨vs, h1, h2, h3⟩ := h
  refine ⟨vs, ownSl h1, fun i l hl => ?_⟩
  have hi : i < vs.length := by have := (List.getElem?_eq_some_iff.1 hl).1; omega
  exact ⟨vs[i], List.getElem?_eq_getElem hi, SlR.keep (h3 i _ l (List.getElem?_eq_getElem hi) hl) hb⟩
theorem OutI.base {w0 w : World} {b b' : Nat} {u : Value} {gs : List (List UInt8)} (h : OutI w0 w b u gs) (hb : b' ≤ b) : OutI w0 w b' u gs := by
  obtain ⟨vs, h1, h2, h3⟩ := h
  exact ⟨vs, own_base h1 hb, h2, h3⟩
/-- a device as a value: it lay there before, or its rows are its own -/
def DevX (w0 : World) (b : Nat) (d : Dev) (v : Value) (w : World) : Prop := DevR w0 v d ∨ DevO b w v d
theorem DevX.stable (w0 : World) (b : Nat) (d : Dev) : Stable (DevX w0 b d) := fun _ _ _ h hb => h.imp id (fun h => h.keep hb)
theorem DevX.read {w0 w : World} {b : Nat} {d : Dev} {v : Value} (h : DevX w0 b d v w) (h0 : Below w0.heap.size w0 w) : DevR w v d := by
  rcases h with h | h
  · exact h.keep h0
  · exact h.read
theorem DevX.off {w0 w w' : World} {b k : Nat} {d : Dev} {v : Value} (h : DevX w0 b d v w) (hg : w.grownBy w' (some k)) (hk : k < b) : DevX w0 b d v w' := h.imp id (fun h => devO_off h hg hk)
theorem DevX.keep {w0 w w' : World} {b : Nat} {d : Dev} {v : Value} (h : DevX w0 b d v w) (hb : Below w.heap.size w w') : DevX w0 b d v w' := h.imp id (fun h => h.keep hb)
theorem DevX.shape {w0 w : World} {b : Nat} {d : Dev} {v : Value} (h : DevX w0 b d v w) : ∃ px pc cx cc, v = .agg #[.slice px d.pages.length pc, .slice cx d.cache.length cc, .int .i64 d.fuse, .bool d.off] := by
  rcases h with h | h
  · exact h.shape
  · exact h.read.shape
/-- a device in a block: the one that was given, or its rows are its own -/
def DevB (dv : Value) (d0 : Dev) (b : Nat) (w : World) (g : Nat) (d : Dev) : Prop := ∃ (px cx : Option Addr) (pc cc : Nat), Blk w g 28 [.slice px d.pages.length pc, .slice cx d.cache.length cc, .int .i64 d.fuse, .bool d.off] ∧ ((.agg #[.slice px d.pages.length pc, .slice cx d.cache.length cc, .int .i64 d.fuse, .bool d.off] = dv ∧ d = d0) ∨ DevO b w (.agg #[.slice px d.pages.length pc, .slice cx d.cache.length cc, .int .i64 d.fuse, .bool d.off]) d)
theorem DevB.keep {dv : Value} {d0 : Dev} {w w' : World} {b g : Nat} {d : Dev} (h : DevB dv d0 b w g d) (hb : Below w.heap.size w w') : DevB dv d0 b w' g d := by
  obtain ⟨px, cx, pc, cc, h1, h2⟩ := h
  exact ⟨px, cx, pc, cc, h1.keep hb, h2.imp id (fun h => h.keep hb)⟩
theorem lit_gg (x : Option Addr) (n c : Nat) (w : World) : (Instr.buildSlice 31 1 #[(0, .slice x n c)]).run Try.prog w = .ok (.slice (some ⟨w.heap.size, 0, none⟩) 1 1) (w.alloc (.cells #[.slice x n c] 37)) := by
  cases x <;> kernel_rfl
theorem devO_own {b : Nat} {w w' : World} {v u : Value} {d : Dev} {b2 n : Nat} {xs : List Value} (h : DevO b w v d) (hg : w.grownBy w' u.ownBlock) (hu : w.ownsRow b2 37 1 u n xs) : DevO b w' v d := by
  obtain ⟨p, c, h1, h2, h3⟩ := h
  exact ⟨p, c, h1, h2.kept hg (own_own h2 hu (by decide)), h3.kept hg (own_own h3 hu (by decide))⟩
theorem fil_take (gs : List (List UInt8)) (k : Nat) (h : k < gs.length) (d : Dev) (p last st : Nat) : filP (gs.drop k) d p last st = if mG (gs[k].take 600) = 0 ∨ 16 - p < mG (gs[k].take 600) then filP (gs.drop (k + 1)) d p last st
    else ((filP (gs.drop (k + 1)) (putD d p st (gs[k].take 600)) (p + mG (gs[k].take 600)) (st + mG (gs[k].take 600) - 1) (st + mG (gs[k].take 600))).1,
      gs[k].take 600 :: (filP (gs.drop (k + 1)) (putD d p st (gs[k].take 600)) (p + mG (gs[k].take 600)) (st + mG (gs[k].take 600) - 1) (st + mG (gs[k].take 600))).2.1,
      (filP (gs.drop (k + 1)) (putD d p st (gs[k].take 600)) (p + mG (gs[k].take 600)) (st + mG (gs[k].take 600) - 1) (st + mG (gs[k].take 600))).2.2) := by
  rw [List.drop_eq_getElem_cons h, filP]
set_option maxHeartbeats 8000000 in
set_option maxRecDepth 100000 in
theorem filledX_any (d : Dev) (p last G : Nat) (gs : List (List UInt8)) (dv gv : Value) (w0 w : World) (h0 : Below w0.heap.size w0 w) (hf : Fresh d) (hD : DevR w dv d) (hgs : Rows2 w0 gv gs) (hp : p ≤ 16) (hG : grB d.pages = G) (hst : max G last + 1 + (16 - p) ≤ 4611686018427387904) :
    Calls Try.prog 26 #[dv, .agg #[.int .i64 (p : Int), .int .u64 (last : Int)], gv] w fun e w' => ∃ v u, e = .returned (.tuple #[v, u, .agg #[.int .i64 ((filP gs d p last (max G last + 1)).2.2.1 : Int), .int .u64 ((filP gs d p last (max G last + 1)).2.2.2 : Int)], .bool true]) ∧ ((v = dv ∧ (filP gs d p last (max G last + 1)).1 = d) ∨ DevO w.heap.size w' v (filP gs d p last (max G last + 1)).1) ∧ OutI w0 w' w.heap.size u (filP gs d p last (max G last + 1)).2.1 ∧ Below w.heap.size w w' := by
  obtain ⟨px, cx, pc, cc, rfl, hk2, hk3⟩ := hD
  obtain ⟨gx, gc, rfl, hgc, hgm⟩ := rows2_shape hgs
  unfold maxLen at hgm
  have hD : DevR w (.agg #[.slice px d.pages.length pc, .slice cx d.cache.length cc, .int .i64 d.fuse, .bool d.off]) d := ⟨px, cx, pc, cc, rfl, hk2, hk3⟩
  have HW0 := Lib.hid h0
  obtain ⟨DVv, hDVv⟩ : ∃ v : Value, v = .agg #[.slice px d.pages.length pc, .slice cx d.cache.length cc, .int .i64 d.fuse, .bool d.off] := ⟨_, rfl⟩
  have HDVv := Lib.hid hDVv
  clear hDVv
  have HD0 := Lib.hid hD
  have HPG := Lib.hid hk2
  have HG0 := Lib.hid hgs
  obtain ⟨st, hse⟩ : ∃ s, max G last + 1 = s := ⟨_, rfl⟩
  obtain ⟨R, hR⟩ : ∃ R, filP gs d p last st = R := ⟨_, rfl⟩
  rw [hse] at hst ⊢
  have HR := Lib.hid hR
  rw [hR]
  have HF := Lib.hid hf
  have HGR := Lib.hid (fun W v hv => great_any d.pages hf.good.pages v W hv)
  rw [hG] at HGR
  have HSE : Hid (max (G : Int) (last : Int) = (st : Int) - 1) := Lib.hid (by omega)
  have hstl : last < st ∧ G < st := by omega
  clear hk2 hk3 hD hgs hR hse hf hG
  have HB := Lib.hid (Below.refl w.heap.size w)
  go_enter Try.func26, Try.ntmps26
  go_upto_region 1 with (fail)
  refine Agg.wp_at fun w1 hw1 => ?_
  have hb : Below w.heap.size w w1 := by rw [hw1.out]; repeat (first | exact Below.refl _ _ | refine Agg.bel_drew ?_ | refine Agg.bel_alloc ?_ _)
  replace HB := Lib.hid (HB.out.trans (hb.mono HB.out.size))
  replace HPG := Lib.hid (HPG.out.keep hb)
  clear hb
  have H3 : Hid (Blk w1 w.heap.size 28 [.slice px d.pages.length pc, .slice cx d.cache.length cc, .int .i64 d.fuse, .bool d.off]) := by show Blk _ _ _ _; rw [hw1.out]; exact (((Blk.new w 28 #[.slice px d.pages.length pc, .slice cx d.cache.length cc, .int .i64 d.fuse, .bool d.off]).al _).al _).al _
  have H4 : Hid (Blk w1 (w.heap.size + 1) 33 [.int .i64 (p : Int), .int .u64 (last : Int)]) := by show Blk _ _ _ _; rw [hw1.out]; exact ((Blk.newAt (w.alloc _) 33 #[.int .i64 (p : Int), .int .u64 (last : Int)] _ (by simp)).al _).al _
  have H6 : Hid (Blk w1 (w.heap.size + 1 + 1) 28 [.slice none 0 0, .slice none 0 0, .int .i64 0, .bool false]) := by show Blk _ _ _ _; rw [hw1.out]; exact (Blk.newAt ((w.alloc _).alloc _) 28 #[.slice none 0 0, .slice none 0 0, .int .i64 0, .bool false] _ (by simp)).al _
  have H8 : Hid (Blk w1 (w.heap.size + 1 + 1 + 1) 33 [.int .i64 0, .int .u64 0]) := by show Blk _ _ _ _; rw [hw1.out]; exact Blk.newAt (((w.alloc _).alloc _).alloc _) 33 #[.int .i64 0, .int .u64 0] _ (by simp)
  clear hw1
  go_upto_region 2 with (fail)
  have hadd : some (IntKind.u64.wrap (((st : Int) - 1) + 1)) = some (st : Int) := by rw [u64_small (by omega) (by omega)]; congr 1; omega
  refine Agg.chainR 8 (by kernel_rfl) (by kernel_rfl) ?_
  simp only [List.take_succ_cons, List.take_zero, List.drop_succ_cons, List.drop_zero]
  refine Agg.chFA fo_fo_Dev_0 rfl rfl rfl rfl ?_
  refine Agg.chLoadB H3.out (by decide +kernel) rfl rfl (by rfl) rfl rfl ?_
  refine Agg.chCall Try.func14 rfl (by kernel_rfl) rfl rfl rfl rfl (fun W hb => HGR.out W _ (SlR.keep HPG.out hb)) ?_
  refine Agg.chFA fo_Lo_1 rfl rfl rfl rfl ?_
  refine Agg.chLoadB H4.out (by decide +kernel) rfl rfl (by rfl) rfl rfl ?_
  refine Agg.chMax2 ((st : Int) - 1) HSE.out rfl rfl rfl rfl rfl ?_
  refine Agg.chAr (r := (st : Int)) rfl rfl rfl hadd rfl rfl ?_
  refine Agg.chAssign rfl rfl rfl rfl ?_
  refine Agg.chEnd ?_
  intro vs w2 hb _
  refine Agg.wpNil ?_
  simp only [List.reverse, List.reverseAux, Agg.fill, List.set_cons_succ, List.set_cons_zero]
  replace HB := Lib.hid (HB.out.trans (hb.mono HB.out.size))
  replace HPG := Lib.hid (HPG.out.keep hb)
  replace H3 := Lib.hid (H3.out.keep hb)
  replace H4 := Lib.hid (H4.out.keep hb)
  replace H6 := Lib.hid (H6.out.keep hb)
  replace H8 := Lib.hid (H8.out.keep hb)
  clear hb
  clear hadd HSE HGR HPG
  go_wp2_with fail
  have hs8 := H8.out.lt
  have hDB : DevB DVv d (w.heap.size + 4) w2 w.heap.size d := ⟨px, cx, pc, cc, H3.out, .inl ⟨HDVv.out.symm, rfl⟩⟩
  have HDB := Lib.hid hDB
  clear hDB H3
  obtain ⟨wZ, hwZ⟩ : ∃ x, x = w2 := ⟨_, rfl⟩
  subst hwZ
  have hout0 : OutI w0 wZ (w.heap.size + 4) (.slice none 0 0) [] := ⟨[], World.ownsRow_nil _ _ _ _, rfl, fun i v g hv => by simp at hv⟩
  have hf0 := HF.out
  have HBZ := HB
  clear HB
  go_loopw [26, 10, 11] (fun ix s10 s11 wr => ∃ (k : Nat) (dk : Dev) (pk lk sk : Nat) (ok : List (List UInt8)) (ox : Option Addr) (oc : Nat), k ≤ gs.length ∧ ix = .int .i64 k ∧ s11 = .int .u64 (sk : Int) ∧ s10 = .slice ox ok.length oc ∧ OutI w0 wr (w.heap.size + 4) (.slice ox ok.length oc) ok ∧ DevB DVv d (w.heap.size + 4) wr w.heap.size dk ∧ Blk wr (w.heap.size + 1) 33 [.int .i64 (pk : Int), .int .u64 (lk : Int)] ∧ Blk wr (w.heap.size + 1 + 1) 28 [.slice none 0 0, .slice none 0 0, .int .i64 0, .bool false] ∧ Blk wr (w.heap.size + 1 + 1 + 1) 33 [.int .i64 0, .int .u64 0] ∧ Below w.heap.size w wr ∧
      Fresh dk ∧ pk ≤ 16 ∧ lk < sk ∧ sk + (16 - pk) ≤ 4611686018427387904 ∧ ok.length ≤ pk ∧ (filP (gs.drop k) dk pk lk sk).1 = R.1 ∧ ok ++ (filP (gs.drop k) dk pk lk sk).2.1 = R.2.1 ∧ (filP (gs.drop k) dk pk lk sk).2.2 = R.2.2) (fun ix _ _ _ => gs.length - (intOf ix).toNat)
  case atStart => exact ⟨0, d, p, last, st, [], none, 0, by omega, rfl, rfl, rfl, hout0, HDB.out, H4.out, H6.out, H8.out, HBZ.out, hf0, hp, hstl.1, hst, by simp, by rw [List.drop_zero, HR.out], by rw [List.drop_zero, HR.out]; rfl, by rw [List.drop_zero, HR.out]⟩
  case round =>
    clear hf0 hout0 HDB
    obtain ⟨k, dk, pk, lk, sk, ok, ox, oc, hk, rfl, rfl, rfl, hoi, hdb, h4, h6, h8, hb, hfr, hpk, hls, hsk, hol, e1, e2, e3⟩ := hrel
    have HOI := Lib.hid hoi
    have HDB := Lib.hid hdb
    have H4 := Lib.hid h4
    have H6 := Lib.hid h6
    have H8 := Lib.hid h8
    have HB := Lib.hid hb
    have HFR := Lib.hid hfr
    have HE := Lib.hid (And.intro e1 (And.intro e2 e3))
    have hs8 := h8.lt
    clear hoi hdb h4 h6 h8 hb hfr e1 e2 e3
    obtain ⟨wA, hwA⟩ : ∃ x, x = wr := ⟨_, rfl⟩
    subst hwA
    by_cases hlt : k < gs.length
    · obtain ⟨gb, go, gc', hve⟩ := rows2_pos HG0.out (by omega)
      injection hve with q1 q2 q3
      subst q1; subst q3; clear q2
      obtain ⟨x1, c1, hc1w, hby⟩ := rows2_at HG0.out hlt
      have hbw0 := HW0.out.trans (HB.out.mono HW0.out.size)
      have hc1 := cell_keep hbw0 hc1w
      clear hbw0
      have hst := HE.out
      rw [fil_take gs k hlt] at hst
      obtain ⟨_, _, e1, hg1, hg2⟩ := SlR.shape hby
      cases e1
      unfold maxLen at hg2
      obtain ⟨nl, hnl⟩ : ∃ n, n = min gs[k].length 600 := ⟨_, rfl⟩
      have hby2 := bytes_take hby nl (by omega)
      have ht6 : gs[k].take nl = gs[k].take 600 := by rw [hnl, Nat.min_comm, ← List.take_take, List.take_length]
      have hmin : min (gs[k].length : Int) 600 = (nl : Int) := by omega
      have hbl : (gs[k].take 600).length = nl := by rw [List.length_take]; omega
      rw [ht6] at hby2
      have hnc : nl ≤ c1 := by omega
      have hsu := fun W : World => run_slice_upto ti25 x1 gs[k].length c1 nl hnc W
      obtain ⟨ln, hln⟩ : ∃ n, gs[k].length = n := ⟨_, rfl⟩
      rw [hln] at hc1 hmin hsu hg1
      obtain ⟨B, hB⟩ : ∃ B, gs[k].take 600 = B := ⟨_, rfl⟩
      rw [hB] at hst hby2 hbl
      have hmG := mG_eq B
      obtain ⟨m, hm⟩ : ∃ m, mG B = m := ⟨_, rfl⟩
      have hmle := mG_le B
      rw [hm] at hst hmG hmle
      have hml : m ≤ 6 := by rw [hbl] at hmG; unfold needL at hmG; split at hmG <;> omega
      have hn6 : nl ≤ 600 := by omega
      have HST := Lib.hid hst
      have HBW := Lib.hid hby2
      have HSU := Lib.hid hsu
      have HMIN := Lib.hid hmin
      have HMG := Lib.hid hmG
      have HBL := Lib.hid hbl
      have HM := Lib.hid hm
      clear hst hby hby2 ht6 hmin hbl hnl hsu hln hB hmG hm hc1w HE hmle
      have hmn := HMIN.out
      go_upto_region 7 with (first
        | (refine Agg.min2 _ _ _ (nl : Int) rfl rfl rfl rfl hmn ?_; simp only [Act.put, List.setIfInBounds_toArray, List.set_cons_succ, List.set_cons_zero])
        | (refine Agg.gSliceUp (.slice x1 nl c1) rfl rfl rfl rfl HSU.out ?_; simp only [Act.put, List.setIfInBounds_toArray, List.set_cons_succ, List.set_cons_zero]))
      clear hmn hc1
      go_wp2_with fail
      refine (need_any (nl : Int) (by omega) (by omega) wA).mono ?_
      rintro e w41 ⟨rfl, hb⟩
      replace HB := Lib.hid (HB.out.trans (hb.mono HB.out.size))
      replace HOI := Lib.hid (HOI.out.keep hb)
      replace HDB := Lib.hid (HDB.out.keep hb)
      replace H4 := Lib.hid (H4.out.keep hb)
      replace H6 := Lib.hid (H6.out.keep hb)
      replace H8 := Lib.hid (H8.out.keep hb)
      clear hb
      rw [← HBL.out, ← HMG.out, HBL.out]
      have c4 := H4.out.cell 0
      simp only [List.getElem?_cons_zero] at c4
      by_cases hcc : m = 0 ∨ 16 - pk < m
      · have hst := HST.out
        rw [if_pos hcc] at hst
        have HE2 := Lib.hid hst
        clear hst HST
        by_cases hm0 : m = 0
        · have hmb : ((m : Int) == 0) = true := by simp [hm0]
          clear hcc hm0
          go_wp2_with fail
          refine ⟨?_, by simp [intOf]; omega⟩
          repeat apply Exists.intro
          exact ⟨⟨k + 1, dk, pk, lk, sk, ok, ox, oc, by omega, by go_num, rfl, rfl, HOI.out, HDB.out, H4.out, H6.out, H8.out, HB.out, HFR.out, hpk, hls, hsk, hol, HE2.out.1, HE2.out.2.1, HE2.out.2.2⟩, rfl⟩
        · have hmb : ((m : Int) == 0) = false := beq_false_of_ne (by omega)
          have hmb2 : decide ((m : Int) > 16 - (pk : Int)) = true := by simp; omega
          clear hcc
          go_wp2_with fail
          refine ⟨?_, by simp [intOf]; omega⟩
          repeat apply Exists.intro
          exact ⟨⟨k + 1, dk, pk, lk, sk, ok, ox, oc, by omega, by go_num, rfl, rfl, HOI.out, HDB.out, H4.out, H6.out, H8.out, HB.out, HFR.out, hpk, hls, hsk, hol, HE2.out.1, HE2.out.2.1, HE2.out.2.2⟩, rfl⟩
      · have hmb : ((m : Int) == 0) = false := beq_false_of_ne (by omega)
        have hmb2 : decide ((m : Int) > 16 - (pk : Int)) = false := by simp; omega
        have hst := HST.out
        rw [if_neg hcc] at hst
        have HE2 := Lib.hid hst
        clear hst HST
        have hcc2 : m ≠ 0 ∧ pk + m ≤ 16 := by omega
        clear hcc
        have hBne : B ≠ [] := mG_nil (by rw [HM.out]; exact hcc2.1)
        have hpf := put_fresh HFR.out (a := pk) (n := sk) (B := B) hBne (by rw [HM.out]; omega) (by omega) (by rw [HM.out]; omega)
        have HPUT := Lib.hid (fun W v b hv hb => lput_any dk (pk : Int) sk B v b W HFR.out.good (by rw [HFR.out.cache]; decide) hv hb (by rw [HBL.out]; omega) (by omega) (by omega) (by omega))
        rw [hpf.1] at HPUT
        obtain ⟨D2, hD2⟩ : ∃ D, putD dk pk sk B = D := ⟨_, rfl⟩
        rw [hD2] at HPUT hpf
        dsimp only at HPUT
        have he := HE2.out
        rw [hD2] at he
        dsimp only at he
        have HE3 := Lib.hid he
        have HF2 := Lib.hid hpf.2
        clear HE2 hpf hBne hD2 he
        obtain ⟨pxk, cxk, pck, cck, h3, hor⟩ := HDB.out
        have hDV : DevR w41 (.agg #[.slice pxk dk.pages.length pck, .slice cxk dk.cache.length cck, .int .i64 dk.fuse, .bool dk.off]) dk := by
          rcases hor with h | h
          · obtain ⟨e1, e2⟩ := h
            rw [e1, e2, HDVv.out]
            exact HD0.out.keep HB.out
          · exact h.read
        have HDV := Lib.hid hDV
        have H3 := Lib.hid h3
        have HBY : Hid (Bytes w41 (.slice x1 nl c1) B) := Lib.hid (SlR.keep HBW.out (HW0.out.trans (HB.out.mono HW0.out.size)))
        clear hDV h3 hor
        go_upto_region 9 with (fail)
        clear c4
        have h3 := H3.out
        have c4 := H4.out.cell 0
        simp only [List.getElem?_cons_zero] at c4
        go_wp2_with (refine Agg.gLoadB 4 h3 rfl rfl rfl rfl (by decide +kernel) ?_; simp only [Act.put, List.setIfInBounds_toArray, List.set_cons_succ, List.set_cons_zero])
        clear h3 c4
        have hlw : w.heap.size + 4 ≤ w41.heap.size := by have := H8.out.lt; omega
        refine (HPUT.out w41 _ _ HDV.out HBY.out).mono ?_
        rintro e w42 ⟨v, rfl, hv, hb⟩
        replace HB := Lib.hid (HB.out.trans (hb.mono HB.out.size))
        replace HOI := Lib.hid (HOI.out.keep hb)
        replace H3 := Lib.hid (H3.out.keep hb)
        replace H4 := Lib.hid (H4.out.keep hb)
        replace H6 := Lib.hid (H6.out.keep hb)
        replace H8 := Lib.hid (H8.out.keep hb)
        clear hb
        obtain ⟨p9, c9, rfl, hp9, hc9⟩ := hv
        obtain ⟨px9, pc9, rfl, _, _⟩ := (ownSl hp9).shape
        obtain ⟨cx9, cc9, rfl, _, _⟩ := (ownSl hc9).shape
        have HDO : Hid (DevO (w.heap.size + 4) w42 (.agg #[.slice px9 D2.pages.length pc9, .slice cx9 D2.cache.length cc9, .int .i64 D2.fuse, .bool D2.off]) D2) := Lib.hid ⟨_, _, rfl, own_base hp9 hlw, own_base hc9 hlw⟩
        clear hp9 hc9 HDV HBY HPUT HFR HDB
        go_upto_region 10 with (first
          | (refine Agg.allocRow 28 #[.slice none 0 0, .slice none 0 0, .int .i64 0, .bool false] rfl rfl (by kernel_rfl) ?_; simp only [Act.put, List.setIfInBounds_toArray, List.set_cons_succ, List.set_cons_zero])
          | (refine Agg.gStoreNew 4 [.slice px9 D2.pages.length pc9, .slice cx9 D2.cache.length cc9, .int .i64 D2.fuse, .bool D2.off] rfl rfl rfl rfl rfl rfl (by decide +kernel) rfl rfl (by simp [Value.oneCell']) ?_; simp only [Act.put]))
        have hl8 := H8.out.lt
        refine Agg.wp_at fun w43 hw43 => ?_
        have hb : Below w42.heap.size w42 w43 := by rw [hw43.out]; repeat (first | exact Below.refl _ _ | refine Agg.bel_drew ?_ | refine Agg.bel_alloc ?_ _)
        replace HB := Lib.hid (HB.out.trans (hb.mono HB.out.size))
        replace HOI := Lib.hid (HOI.out.keep hb)
        replace H3 := Lib.hid (H3.out.keep hb)
        replace H4 := Lib.hid (H4.out.keep hb)
        replace H6 := Lib.hid (H6.out.keep hb)
        replace H8 := Lib.hid (H8.out.keep hb)
        replace HDO := Lib.hid (HDO.out.keep hb)
        clear hb
        have H15 : Hid (Blk w43 w42.heap.size 28 [.slice px9 D2.pages.length pc9, .slice cx9 D2.cache.length cc9, .int .i64 D2.fuse, .bool D2.off]) := by show Blk _ _ _ _; rw [hw43.out]; exact Blk.new w42 28 #[.slice px9 D2.pages.length pc9, .slice cx9 D2.cache.length cc9, .int .i64 D2.fuse, .bool D2.off]
        have hl15 : w.heap.size + 4 ≤ w42.heap.size := by omega
        clear hw43
        generalize w42.heap.size = g15 at *
        go_upto_region 12 with (fail)
        refine Agg.heldBegin (S := fun W => Blk W g15 28 [.slice px9 D2.pages.length pc9, .slice cx9 D2.cache.length cc9, .int .i64 D2.fuse, .bool D2.off]) 7 (by kernel_rfl) rfl ?_
        have hb0 : Below w43.heap.size w43 w43.drew := bel_drew (Below.refl _ _)
        replace HOI := Lib.hid (HOI.out.keep hb0)
        replace H3 := Lib.hid (H3.out.keep hb0)
        replace H4 := Lib.hid (H4.out.keep hb0)
        replace H6 := Lib.hid (H6.out.keep hb0)
        replace H8 := Lib.hid (H8.out.keep hb0)
        replace HDO := Lib.hid (HDO.out.keep hb0)
        replace H15 := Lib.hid (H15.out.keep hb0)
        replace HB := Lib.hid (HB.out.trans (hb0.mono HB.out.size))
        clear hb0
        generalize w43.drew = z0 at *
        simp only [List.replicate_succ, List.replicate_zero]
        have hz0 := H15.out
        refine Agg.heldTake (i := 0) (by decide +kernel) rfl rfl rfl (v := .agg #[.slice px9 D2.pages.length pc9, .slice cx9 D2.cache.length cc9, .int .i64 D2.fuse, .bool D2.off]) (fun W hW => Agg.run_rowB 0 4 _ hW rfl rfl (by decide +kernel) rfl rfl) hz0 ?_
        simp only [List.set_cons_succ, List.set_cons_zero]
        refine Agg.heldTake (i := 1) (by decide +kernel) rfl rfl rfl (v := .slice ox ok.length oc) (fun W hW => Agg.run_move rfl rfl) hz0 ?_
        simp only [List.set_cons_succ, List.set_cons_zero]
        refine Agg.heldTake (i := 2) (by decide +kernel) rfl rfl rfl (v := .slice x1 nl c1) (fun W hW => Agg.run_move rfl rfl) hz0 ?_
        simp only [List.set_cons_succ, List.set_cons_zero]
        have hbA : Below z0.heap.size z0 (z0.alloc (.cells #[.slice x1 nl c1] 37)) := (Below.refl _ _).alloc (Nat.le_refl _) _
        refine Agg.heldOne (i := 3) (by decide +kernel) rfl rfl rfl (v := .slice (some ⟨z0.heap.size, 0, none⟩) 1 1) (w' := z0.alloc (.cells #[.slice x1 nl c1] 37)) (by exact Agg.run_buildSl (ps := [(0, .tmp 63)]) #[.slice x1 nl c1] rfl (by exact lit_gg x1 nl c1 z0)) (hz0.keep hbA) ?_
        simp only [List.set_cons_succ, List.set_cons_zero]
        obtain ⟨vs, hvo, hvl, hve⟩ := HOI.out
        have hC3 := own_keep hvo hbA
        have hsl : SlR (z0.alloc (.cells #[.slice x1 nl c1] 37)) (.slice (some ⟨z0.heap.size, 0, none⟩) 1 1) 1 1 [.slice x1 nl c1] := NewSl.sl (b0 := 0) (e := 37) ⟨_, rfl, Nat.zero_le _, Blk.new z0 37 #[.slice x1 nl c1]⟩ rfl (by unfold maxLen; decide)
        have h15A := hz0.keep hbA
        have h3A := H3.out.keep hbA
        have h4A := H4.out.keep hbA
        have h6A := H6.out.keep hbA
        have h8A := H8.out.keep hbA
        have hdA := HDO.out.keep hbA
        have hbwA := HB.out.trans (hbA.mono HB.out.size)
        have hlwA : w.heap.size + 4 ≤ (z0.alloc (.cells #[.slice x1 nl c1] 37)).heap.size := by have := h8A.lt; omega
        refine Agg.heldAppend tiGG (.tmp 62) (.tmp 64) (i := 4) (by decide +kernel) rfl rfl rfl rfl (w.heap.size + 4) (v := .slice ox ok.length oc) rfl hC3 rfl hsl (by simp [Value.oneCell']) (by unfold maxLen; omega) (by omega) hlwA
          (fun v4 w4 hC4 hg4 _ => ⟨blk_row h15A hg4 (own_apart hC3 h15A (by decide)), ?_⟩)
        simp only [List.set_cons_succ, List.set_cons_zero]
        obtain ⟨v4x, v4c, rfl, _, _⟩ := (ownSl hC4).shape
        have h154 := blk_row h15A hg4 (own_apart hC3 h15A (by decide))
        have h34 := blk_row h3A hg4 (own_apart hC3 h3A (by decide))
        have h44 := blk_row h4A hg4 (own_apart hC3 h4A (by decide))
        have h64 := blk_row h6A hg4 (own_apart hC3 h6A (by decide))
        have h84 := blk_row h8A hg4 (own_apart hC3 h8A (by decide))
        have hd4 := devO_own hdA hg4 hC3
        have hbw4 := hbwA.trans (grown_below hg4 hbwA.size (fun j e => by have := own_block hC3 j e; omega))
        refine Agg.heldSt (i := 5) (.agg #[.slice px9 D2.pages.length pc9, .slice cx9 D2.cache.length cc9, .int .i64 D2.fuse, .bool D2.off]) [.slice px9 D2.pages.length pc9, .slice cx9 D2.cache.length cc9, .int .i64 D2.fuse, .bool D2.off] h34 rfl (by kernel_rfl) (by simp) (by simp [Value.oneCell']) (by decide +kernel) rfl rfl rfl rfl rfl rfl (fun w5 hb5 hg5 => ⟨h154.far' hg5 (by omega), ?_⟩)
        have h155 := h154.far' hg5 (show g15 ≠ w.heap.size by omega)
        refine Agg.heldOne (i := 6) (by decide +kernel) rfl rfl rfl (v := .slice v4x (ok.length + 1) v4c) (w' := w5) (Agg.run_assign rfl rfl) h155 ?_
        simp only [List.set_cons_succ, List.set_cons_zero]
        refine Agg.heldDone (by decide +kernel) ?_
        simp only [spliced, List.take_zero, List.drop_succ_cons, List.nil_append, List.length_cons, List.length_nil, List.drop_zero, List.cons_append, Nat.zero_add, Nat.reduceAdd, List.append_nil, List.drop_nil] at hb5
        have H35 := Lib.hid hb5
        have H45 := Lib.hid (h44.far' hg5 (show w.heap.size + 1 ≠ w.heap.size by omega))
        have H65 := Lib.hid (h64.far' hg5 (show w.heap.size + 1 + 1 ≠ w.heap.size by omega))
        have H85 := Lib.hid (h84.far' hg5 (show w.heap.size + 1 + 1 + 1 ≠ w.heap.size by omega))
        have HD5 := Lib.hid (devO_off hd4 hg5 (by omega))
        have HC5 := Lib.hid (hC4.kept hg5 (own_off hC4 (by omega)))
        have HB5 := Lib.hid (hbw4.trans (grown_below hg5 hbw4.size (fun j e => by cases e; exact Nat.le_refl _)))
        have HVE := Lib.hid (And.intro hvl hve)
        clear hvo hvl hve hC3 hsl h15A h3A h4A h6A h8A hdA hbwA hlwA h154 h34 h44 h64 h84 hd4 hbw4 h155 hb5 hC4 hg4 hg5 hz0 hbA HOI H3 H4 H6 H8 HDO H15 HB
        have HB := HB5
        clear HB5
        have c4 := H45.out.cell 0
        simp only [List.getElem?_cons_zero] at c4
        have h45 := H45.out
        have hu1 : IntKind.u64.wrap (m : Int) = (m : Int) := u64_small (by omega) (by omega)
        go_wp2_with (refine Agg.gStoreB 2 [.int .i64 ((pk : Int) + (m : Int)), .int .u64 ((sk : Int) + (m : Int) - 1)] h45 rfl rfl rfl rfl rfl (by decide +kernel) rfl rfl (by simp [Value.oneCell']) (fun w6 hb6 hg6 => ?_))
        have e1 : (pk : Int) + (m : Int) = ((pk + m : Nat) : Int) := by omega
        have e2 : (sk : Int) + (m : Int) - 1 = ((sk + m - 1 : Nat) : Int) := by omega
        rw [e1, e2] at hb6
        have hoi6 : OutI w0 w6 (w.heap.size + 4) (.slice v4x (ok ++ [B]).length v4c) (ok ++ [B]) := by
          refine ⟨vs ++ [.slice x1 nl c1], ?_, by simp [HVE.out.1], fun i v g hv hg => ?_⟩
          · rw [List.length_append]; exact HC5.out.kept hg6 (own_off HC5.out (by omega))
          · by_cases hi : i < ok.length
            · rw [List.getElem?_append_left (by rw [HVE.out.1]; exact hi)] at hv
              rw [List.getElem?_append_left hi] at hg
              exact HVE.out.2 i v g hv hg
            · rw [List.getElem?_append_right (by rw [HVE.out.1]; omega)] at hv
              rw [List.getElem?_append_right (by omega)] at hg
              have hi0 : i - ok.length = 0 := by
                have := (List.getElem?_eq_some_iff.1 hg).1
                simp at this; omega
              rw [HVE.out.1, hi0] at hv
              rw [hi0] at hg
              simp only [List.getElem?_cons_zero, Option.some.injEq] at hv hg
              subst hv; subst hg
              exact HBW.out
        have hdb6 : DevB DVv d (w.heap.size + 4) w6 w.heap.size D2 := ⟨_, _, _, _, H35.out.far' hg6 (by omega), .inr (devO_off HD5.out hg6 (by omega))⟩
        have h66 := H65.out.far' hg6 (show w.heap.size + 1 + 1 ≠ w.heap.size + 1 by omega)
        have h86 := H85.out.far' hg6 (show w.heap.size + 1 + 1 + 1 ≠ w.heap.size + 1 by omega)
        have hbw6 := HB.out.trans (grown_below hg6 HB.out.size (fun j e => by cases e; omega))
        have HX1 := Lib.hid hoi6
        have HX2 := Lib.hid hdb6
        have HX3 := Lib.hid hb6
        have HX4 := Lib.hid h66
        have HX5 := Lib.hid h86
        have HX6 := Lib.hid hbw6
        have HX7 : Hid (ok.length + 1 ≤ pk + m) := Lib.hid (by omega)
        have HX8 : Hid (Value.slice v4x (ok.length + 1) v4c = .slice v4x (ok ++ [B]).length v4c) := Lib.hid (by rw [List.length_append]; rfl)
        have e3 : (sk : Int) + (m : Int) = ((sk + m : Nat) : Int) := by omega
        have HX9 := Lib.hid e3
        clear e1 e2 e3 hoi6 hdb6 hb6 h66 h86 hbw6 hg6 c4 h45 HB H45 H65 H85 HD5 HC5 H35
        go_wp2_with fail
        refine ⟨?_, by simp [intOf]; omega⟩
        repeat apply Exists.intro
        exact ⟨⟨k + 1, D2, pk + m, sk + m - 1, sk + m, ok ++ [B], v4x, v4c, by omega, by go_num, by rw [HX9.out], HX8.out, HX1.out, HX2.out, HX3.out, HX4.out, HX5.out, HX6.out, HF2.out, by omega, by omega, by omega, by rw [List.length_append]; exact HX7.out, HE3.out.1, by rw [List.append_assoc]; exact HE3.out.2.1, HE3.out.2.2⟩, rfl⟩
    · obtain rfl : k = gs.length := by omega
      have he := HE.out
      rw [List.drop_length, filP] at he
      dsimp only at he
      rw [List.append_nil] at he
      obtain ⟨e1, e2, e3⟩ := he
      obtain ⟨pxk, cxk, pck, cck, h3, hor⟩ := HDB.out
      have HR1 : Hid (dk = R.1 ∧ ok = R.2.1 ∧ (pk, lk) = R.2.2) := Lib.hid ⟨e1, e2, e3⟩
      have H3 := Lib.hid h3
      have HOR := Lib.hid hor
      clear h3 hor e1 e2 e3 HE HDB
      go_upto_region 16 with (fail)
      refine Agg.heldBegin (S := fun W => Blk W w.heap.size 28 [.slice pxk dk.pages.length pck, .slice cxk dk.cache.length cck, .int .i64 dk.fuse, .bool dk.off] ∧ Blk W (w.heap.size + 1) 33 [.int .i64 (pk : Int), .int .u64 (lk : Int)]) 7 (by kernel_rfl) rfl ?_
      have hb0 : Below wA.heap.size wA wA.drew := bel_drew (Below.refl _ _)
      replace HOI := Lib.hid (HOI.out.keep hb0)
      replace H3 := Lib.hid (H3.out.keep hb0)
      replace H4 := Lib.hid (H4.out.keep hb0)
      replace H6 := Lib.hid (H6.out.keep hb0)
      replace H8 := Lib.hid (H8.out.keep hb0)
      replace HOR := Lib.hid (HOR.out.imp id (fun h => h.keep hb0))
      replace HB := Lib.hid (HB.out.trans (hb0.mono HB.out.size))
      clear hb0
      generalize wA.drew = z0 at *
      simp only [List.replicate_succ, List.replicate_zero]
      have hz0 := And.intro H3.out H4.out
      refine Agg.heldTake (i := 0) (by decide +kernel) rfl rfl rfl (v := .agg #[.slice pxk dk.pages.length pck, .slice cxk dk.cache.length cck, .int .i64 dk.fuse, .bool dk.off]) (fun W hW => Agg.run_rowB 0 4 _ hW.1 rfl rfl (by decide +kernel) rfl rfl) hz0 ?_
      simp only [List.set_cons_succ, List.set_cons_zero]
      refine Agg.heldTake (i := 1) (by decide +kernel) rfl rfl rfl (v := .slice ox ok.length oc) (fun W hW => Agg.run_move rfl rfl) hz0 ?_
      simp only [List.set_cons_succ, List.set_cons_zero]
      refine Agg.heldTake (i := 2) (by decide +kernel) rfl rfl rfl (v := .agg #[.int .i64 (pk : Int), .int .u64 (lk : Int)]) (fun W hW => Agg.run_rowB 0 2 _ hW.2 rfl rfl (by decide +kernel) rfl rfl) hz0 ?_
      simp only [List.set_cons_succ, List.set_cons_zero]
      have h6z := H6.out
      refine Agg.heldSt (i := 3) (.agg #[.slice pxk dk.pages.length pck, .slice cxk dk.cache.length cck, .int .i64 dk.fuse, .bool dk.off]) [.slice pxk dk.pages.length pck, .slice cxk dk.cache.length cck, .int .i64 dk.fuse, .bool dk.off] h6z rfl (by kernel_rfl) (by simp) (by simp [Value.oneCell']) (by decide +kernel) rfl rfl rfl rfl rfl rfl (fun w5 hb5 hg5 => ⟨⟨hz0.1.far' hg5 (by omega), hz0.2.far' hg5 (by omega)⟩, ?_⟩)
      have hz5 := And.intro (hz0.1.far' hg5 (show w.heap.size ≠ w.heap.size + 1 + 1 by omega)) (hz0.2.far' hg5 (show w.heap.size + 1 ≠ w.heap.size + 1 + 1 by omega))
      refine Agg.heldOne (i := 4) (by decide +kernel) rfl rfl rfl (v := .slice ox ok.length oc) (w' := w5) (Agg.run_assign rfl rfl) hz5 ?_
      simp only [List.set_cons_succ, List.set_cons_zero]
      have h85 := H8.out.far' hg5 (show w.heap.size + 1 + 1 + 1 ≠ w.heap.size + 1 + 1 by omega)
      refine Agg.heldSt (i := 5) (.agg #[.int .i64 (pk : Int), .int .u64 (lk : Int)]) [.int .i64 (pk : Int), .int .u64 (lk : Int)] h85 rfl (by kernel_rfl) (by simp) (by simp [Value.oneCell']) (by decide +kernel) rfl rfl rfl rfl rfl rfl (fun w6 hb6 hg6 => ⟨⟨hz5.1.far' hg6 (by omega), hz5.2.far' hg6 (by omega)⟩, ?_⟩)
      have hz6 := And.intro (hz5.1.far' hg6 (show w.heap.size ≠ w.heap.size + 1 + 1 + 1 by omega)) (hz5.2.far' hg6 (show w.heap.size + 1 ≠ w.heap.size + 1 + 1 + 1 by omega))
      refine Agg.heldOne (i := 6) (by decide +kernel) rfl rfl rfl (v := .bool true) (w' := w6) (Agg.run_assign rfl rfl) hz6 ?_
      simp only [List.set_cons_succ, List.set_cons_zero]
      refine Agg.heldDone (by decide +kernel) ?_
      simp only [spliced, List.take_zero, List.drop_succ_cons, List.nil_append, List.length_cons, List.length_nil, List.drop_zero, List.cons_append, Nat.zero_add, Nat.reduceAdd, List.append_nil, List.drop_nil] at hb5 hb6
      have HB5 := Lib.hid (hb5.far' hg6 (show w.heap.size + 1 + 1 ≠ w.heap.size + 1 + 1 + 1 by omega))
      have HB6 := Lib.hid hb6
      have hl0 : w.heap.size + 4 ≤ z0.heap.size := by have := H8.out.lt; omega
      have hbw5 := HB.out.trans (grown_below hg5 HB.out.size (fun j e => by cases e; omega))
      have HBB := Lib.hid (hbw5.trans (grown_below hg6 hbw5.size (fun j e => by cases e; omega)))
      have HO6 := Lib.hid ((HOI.out.grown hg5 (by omega)).grown hg6 (by omega))
      have HOR6 := Lib.hid (HOR.out.imp id (fun h => devO_off (devO_off h hg5 (by omega)) hg6 (by omega)))
      clear hz0 hz5 hz6 hb5 hb6 hbw5 hg5 hg6 h6z h85 HOI H3 H4 H6 H8 HOR HB
      go_wp2_with fail
      have q1 := HR1.out.1
      have q2 := HR1.out.2.1
      have q3 := HR1.out.2.2
      rw [← q1, ← q2, ← q3]
      refine bodyPost_ret (results_cscs (m := 4) (m2 := 2) rfl HB5.out rfl (by decide +kernel) rfl HB6.out rfl (by decide +kernel) rfl) rfl ⟨_, _, rfl, ?_, HO6.out.base (by omega), HBB.out⟩
      rcases HOR6.out with h | h
      · exact .inl ⟨h.1.trans HDVv.out, h.2⟩
      · exact .inr (h.base (by omega))
theorem filled_any (d : Dev) (p last G : Nat) (gs : List (List UInt8)) (dv gv : Value) (w0 w : World) (h0 : Below w0.heap.size w0 w) (hf : Fresh d) (hD : DevR w0 dv d) (hgs : Rows2 w0 gv gs) (hp : p ≤ 16) (hG : grB d.pages = G) (hst : max G last + 1 + (16 - p) ≤ 4611686018427387904) :
    Calls Try.prog 26 #[dv, .agg #[.int .i64 (p : Int), .int .u64 (last : Int)], gv] w fun e w' => ∃ v u, e = .returned (.tuple #[v, u, .agg #[.int .i64 ((filP gs d p last (max G last + 1)).2.2.1 : Int), .int .u64 ((filP gs d p last (max G last + 1)).2.2.2 : Int)], .bool true]) ∧ DevX w0 w.heap.size (filP gs d p last (max G last + 1)).1 v w' ∧ OutI w0 w' w.heap.size u (filP gs d p last (max G last + 1)).2.1 ∧ Below w.heap.size w w' := by
  refine (filledX_any d p last G gs dv gv w0 w h0 hf (hD.keep h0) hgs hp hG hst).mono ?_
  rintro e w' ⟨v, u, rfl, h1, h2, h3⟩
  refine ⟨v, u, rfl, ?_, h2, h3⟩
  rcases h1 with ⟨e1, e2⟩ | h1
  · left; rw [e1, e2]; exact hD
  · exact .inr h1
end Go.Proofs.Ytlddjcilbpcciaa
