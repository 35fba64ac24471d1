/-
  THE WALKS OF LAYER 8 (pmc): the iterator over the parts.
-/
import Derived.Test.YtchpkgneloiidaaPm5
import Derived.Test.YtchpkgneloiidaaIter3
import Derived.Test.YtchpkgneloiidaaGood2
section
namespace Pm
open Go Go.RowKit Agg Pg
/-- parts, by where they begin, and how long they are -/
def offs : Nat → List Nat → List (Nat × Nat)
  | _, [] => []
  | o, n :: r => (o, n) :: offs (o + n) r
theorem offs_length : ∀ (r : List Nat) (o : Nat), (offs o r).length = r.length
  | [], _ => rfl
  | n :: r, o => by simp [offs, offs_length r (o + n)]
theorem offs_snd : ∀ (r : List Nat) (o : Nat), (offs o r).map (·.2) = r
  | [], _ => rfl
  | n :: r, o => by simp [offs, offs_snd r (o + n)]
def lenAt (kb : Nat) (W : World) : Nat := match W.cell? ⟨kb, 0, none⟩ with
  | some (.slice _ n _) => n
  | _ => 0
theorem lenAt_blk {kb : Nat} {W : World} {T : TypeId} {p : Option Addr} {n c : Nat} (h : Blk W kb T [.slice p n c]) : lenAt kb W = n := by
  unfold lenAt; rw [h.cell]; rfl
def AbP (kb : Nat) (A B : World) : Prop := Below A.heap.size A B ∨ A.grownBy B (some kb)
def KpP (n0 : Nat) (T : TypeId) (A B : World) : Prop := Below n0 A B ∧ A.heap.size ≤ B.heap.size ∧ ∀ b cs, Blk A b T cs → Blk B b T cs
theorem KpP.trans {n0 : Nat} {T : TypeId} {A B C : World} (h1 : KpP n0 T A B) (h2 : KpP n0 T B C) : KpP n0 T A C := ⟨h1.1.trans h2.1, Nat.le_trans h1.2.1 h2.2.1, fun b cs h => h2.2.2 b cs (h1.2.2 b cs h)⟩
theorem bds_part {w : World} {b o cap : Nat} {l : List Bd} (h : Bds w (.slice (some ⟨b, o, none⟩) l.length cap) l) {i j : Nat} (hij : i + j ≤ l.length) (c : Nat) (hc : j ≤ c) (hc2 : i + c ≤ cap) : Bds w (.slice (some ⟨b, o + i * 3, none⟩) j c) ((l.drop i).take j) := by
  have hl : ((l.drop i).take j).length = j := by rw [List.length_take, List.length_drop]; omega
  obtain ⟨_, _, e, hc1, hcm⟩ := SlR.shape h
  cases e
  refine ⟨by rw [flat_len bdC 3 _ (fun _ _ => rfl)], .inr ⟨_, c, by rw [hl], by rw [hl]; exact hc, by omega, fun k u hu => ?_⟩⟩
  have hk := (List.getElem?_eq_some_iff.1 hu).1
  rw [flat_len bdC 3 _ (fun _ _ => rfl), hl] at hk
  obtain ⟨q, r, rfl, hr⟩ : ∃ q r, k = q * 3 + r ∧ r < 3 := ⟨k / 3, k % 3, by omega, Nat.mod_lt _ (by decide)⟩
  have hq : q < j := by omega
  have hq2 : i + q < l.length := by omega
  have e2 : ((l.drop i).take j)[q]'(by rw [hl]; exact hq) = l[i + q] := by rw [List.getElem_take, List.getElem_drop]
  have e3 := flat_cells bdC 3 (fun x (_ : x ∈ (l.drop i).take j) => rfl) q (by rw [hl]; exact hq) r ((bdC l[i + q])[r]'(by simp [bdC]; exact hr)) (by rw [e2]; exact List.getElem?_eq_getElem _)
  rw [e3] at hu
  cases hu
  have h4 := flat_at bdC 3 (by decide) h (fun _ _ => rfl) hq2 r _ (List.getElem?_eq_getElem (show r < (bdC l[i + q]).length by simp [bdC]; exact hr))
  rw [Int.toNat_natCast] at h4
  rw [add_none, ← h4]
  congr 2; omega
end Pm
namespace Go.Proofs.Ytchpkgneloiidaa
open Go.ChangeShapes Go.WideShapes Go.ChangeAt Go.RowKit Agg Pg Pm
attribute [local go_sem] Oper.semAt_some

theorem parts_any (x : Option Addr) (n cap : Nat) (w : World) :
    Calls Try.prog 38 #[.slice x n cap] w fun e w' => e = .returned (.func (.func 48) #[] #[.pointer (some ⟨w.heap.size, 0, none⟩)]) ∧ Blk w' w.heap.size 22 [.slice x n cap] ∧ Below w.heap.size w w' := by
  have HB := Lib.hid (Below.refl w.heap.size w)
  go_enter Try.func38, Try.ntmps38
  go_wp2_with fail
  go_ret
  exact ⟨rfl, Blk.new w 22 #[.slice x n cap], bel_alloc HB.out _⟩
set_option maxHeartbeats 4000000 in
set_option maxRecDepth 100000 in
theorem parts1_iter (l : List Bd) (b o cap kb : Nat) (wS : World) (hl : Bds wS (.slice (some ⟨b, o, none⟩) l.length cap) l) (hok : Okb l) (hkb : wS.heap.size ≤ kb) :
    Iter Try.prog 48 #[.pointer (some ⟨kb, 0, none⟩)] (fun x => #[.slice (some ⟨b, o + x.1 * 3, none⟩) x.2 x.2]) (AbP kb) (KpP wS.heap.size 22) (offs 0 (cut l)) (fun W => Below wS.heap.size wS W ∧ Blk W kb 22 [.slice (some ⟨b, o, none⟩) l.length cap]) := by
  intro lr J Jx W hokW hJ hJx hY h0
  have HL0 := Lib.hid hl
  have hln := (Bds.len hl).2
  have hlc : l.length ≤ cap := by obtain ⟨_, _, e, h1, _⟩ := SlR.shape hl; cases e; exact h1
  have HOK := Lib.hid hok
  have HKB := Lib.hid hkb
  have HJ := Lib.hid hJ
  have HJX := Lib.hid hJx
  have HY := Lib.hid hY
  have HW := Lib.hid hokW
  have H00 := Lib.hid h0
  clear hl hok hkb hokW hJ hJx hY h0
  obtain ⟨xs, hxs⟩ : ∃ xs, offs 0 (cut l) = xs := ⟨_, rfl⟩
  rw [hxs] at HY ⊢
  have HXS := Lib.hid hxs
  clear hxs
  go_enter Try.func48, Try.ntmps48
  go_wp2_with fail
  go_loopw [] (fun wr => ∃ (k off : Nat) (p : Option Addr) (cp : Nat), off ≤ l.length ∧ k ≤ xs.length ∧ xs.drop k = offs off (cut (l.drop off)) ∧ Below wS.heap.size wS wr ∧ Blk wr kb 22 [.slice p (l.length - off) cp] ∧ (off < l.length → p = some ⟨b, o + off * 3, none⟩ ∧ cp = cap - off) ∧ J k wr) (fun wr => lenAt kb wr)
  case atStart => exact ⟨0, 0, some ⟨b, o, none⟩, cap, Nat.zero_le _, Nat.zero_le _, by rw [List.drop_zero, List.drop_zero]; exact HXS.out.symm, HW.out.1, HW.out.2, fun _ => ⟨by simp, rfl⟩, H00.out⟩
  case round =>
    obtain ⟨k, off, p, cp, hoff, hk, hd, hb, hkb, hp, hj⟩ := hrel
    have HD := Lib.hid hd
    have HB := Lib.hid hb
    have HK := Lib.hid hkb
    have HJ1 := Lib.hid hj
    have HLA := Lib.hid (lenAt_blk hkb)
    clear hd hb hkb hj H00 HW
    obtain ⟨wA, hwA⟩ : ∃ x, x = wr := ⟨_, rfl⟩
    subst hwA
    have k0 := HK.out.cell 0
    simp only [List.getElem?_cons_zero] at k0
    by_cases hlt : off < l.length
    · obtain ⟨rfl, rfl⟩ := hp hlt
      have hne : l.drop off ≠ [] := fun e => by have := congrArg List.length e; rw [List.length_drop] at this; simp at this; omega
      have hokd := HOK.out.drop off
      have hst := cut_step hne hokd
      have hn1 := longest_pos hne hokd
      have hn2 := longest_le hokd
      rw [List.length_drop] at hn2
      have hlo := fun W hW => longest_any (l.drop off) (.slice (some ⟨b, o + off * 3, none⟩) (l.length - off) (cap - off)) W hW hokd
      obtain ⟨⟨⟨⟨c1, c2⟩, cs⟩, n⟩, hn⟩ : ∃ r, longest (l.drop off) = r := ⟨_, rfl⟩
      rw [hn] at hst hn1 hn2 hlo
      simp only [comC] at hst hn1 hn2 hlo
      rw [List.drop_drop] at hst
      have hdk := HD.out
      rw [hst, offs] at hdk
      have hkx : k < xs.length := by
        have h := congrArg List.length hdk
        rw [List.length_drop, List.length_cons] at h; omega
      have hxk : xs[k] = (off, n) := by
        rw [List.drop_eq_getElem_cons hkx] at hdk
        exact (List.cons.inj hdk).1
      have hdn : xs.drop (k + 1) = offs (off + n) (cut (l.drop (off + n))) := by
        rw [List.drop_eq_getElem_cons hkx] at hdk
        exact (List.cons.inj hdk).2
      have HLO := Lib.hid hlo
      have HXK := Lib.hid hxk
      have HDN := Lib.hid hdn
      clear hne hokd hst hn hdk hxk hdn hlo HD
      have hbd : Bds wA (.slice (some ⟨b, o + off * 3, none⟩) (l.length - off) (cap - off)) (l.drop off) := by
        have h := bds_part (SlR.keep HL0.out HB.out) (i := off) (j := l.length - off) (by omega) (cap - off) (by omega) (by omega)
        rw [List.take_of_length_le (by rw [List.length_drop]; omega)] at h
        exact h
      have HBD := Lib.hid hbd
      clear hbd
      have hlp : ((l.length - off : Nat) : Int) > 0 := by omega
      have HFR : Hid (From wA wA) := Lib.hid (Below.refl _ _)
      go_wp2_with fail
      clear k0
      refine (HLO.out wA HBD.out).mono ?_
      rintro e w11 ⟨rfl, hb11⟩
      have HFA := Lib.hid hb11
      have HK1 := Lib.hid (HK.out.keep hb11)
      clear hb11
      go_upto_region 2 with (first
        | (refine Agg.allocRow 62 #[.int .i64 0, .int .i64 0, .bool false] rfl rfl (by kernel_rfl) ?_; simp only [Act.put, List.setIfInBounds_toArray, List.set_cons_succ, List.set_cons_zero])
        | (refine Agg.gStoreNew 3 [.int .i64 c1, .int .i64 c2, .bool cs] rfl rfl rfl rfl rfl rfl (by decide +kernel) rfl rfl rfl ?_; simp only [Act.put]))
      refine Agg.wp_at fun wC hwC => ?_
      have hbC : Below wA.heap.size wA wC := by rw [hwC.out]; exact HFA.out.trans (((Below.refl _ w11).alloc (Nat.le_refl _) _).mono HFA.out.size)
      have hkC : Blk wC kb 22 [.slice (some ⟨b, o + off * 3, none⟩) (l.length - off) (cap - off)] := HK.out.keep hbC
      have hjC : J k wC := HJ.out _ _ _ HJ1.out (.inl hbC)
      have HBC := Lib.hid (HB.out.trans (hbC.mono HB.out.size))
      have HKC := Lib.hid hkC
      obtain ⟨fn, tmps, assign, body, hy, hR⟩ := HY.out k hkx wC hjC
      rw [HXK.out] at hy
      have k0 := HKC.out.cell 0
      simp only [List.getElem?_cons_zero] at k0
      clear hbC hkC hjC hwC HFA HK1 HFR HK HB HJ1 HLO
      refine (wpIn_wide (n := 2)).1 ?_
      gi_wp2
      refine hR.mono ?_
      rintro e W2 (⟨rfl, hj2, hk2⟩ | ⟨rfl, hjx2⟩)
      · have HJ3 := Lib.hid hj2
        have HB3 := Lib.hid (HBC.out.trans hk2.1)
        have hk3 := hk2.2.2 _ _ HKC.out
        have HK3 := Lib.hid hk3
        clear hj2 hk2 hR hy k0
        have k0 := HK3.out.cell 0
        simp only [List.getElem?_cons_zero] at k0
        gi_wp2
        have hk4 := HK3.out
        by_cases hcap : n < cap - off
        · go_wp2_with (refine Agg.gStoreCell 0 (.slice (some ⟨b, o + off * 3 + n * 3, none⟩) (l.length - off - n) (cap - off - n)) hk4 rfl rfl rfl rfl rfl (by kernel_rfl) rfl (by simp) rfl (fun w5 hb5 hg5 => ?_))
          simp only [spliced, List.take_zero, List.drop_succ_cons, List.length_cons, List.length_nil, List.nil_append, List.drop_nil, List.append_nil] at hb5
          refine ⟨⟨k + 1, off + n, some ⟨b, o + off * 3 + n * 3, none⟩, cap - off - n, by omega, hkx, HDN.out, HB3.out.trans (grown_below hg5 HB3.out.size (fun j hj => by cases hj; exact HKB.out)), by rw [← Nat.sub_sub]; exact hb5, fun _ => ⟨by rw [Nat.add_mul, Nat.add_assoc], by omega⟩, HJ.out _ _ _ HJ3.out (.inr hg5)⟩, by rw [lenAt_blk hb5, HLA.out]; omega⟩
        · have hce : cap - off = n := by omega
          have hle : l.length - off = n := by omega
          go_wp2_with (refine Agg.gStoreCell 0 (.slice (some ⟨b, o + off * 3, none⟩) 0 0) hk4 rfl rfl rfl rfl rfl (by kernel_rfl) rfl (by simp) rfl (fun w5 hb5 hg5 => ?_))
          simp only [spliced, List.take_zero, List.drop_succ_cons, List.length_cons, List.length_nil, List.nil_append, List.drop_nil, List.append_nil] at hb5
          have h0 : l.length - (off + n) = 0 := by omega
          exact ⟨⟨k + 1, off + n, some ⟨b, o + off * 3, none⟩, 0, by omega, hkx, HDN.out, HB3.out.trans (grown_below hg5 HB3.out.size (fun j hj => by cases hj; exact HKB.out)), by rw [h0]; exact hb5, fun h => by omega, HJ.out _ _ _ HJ3.out (.inr hg5)⟩, by rw [lenAt_blk hb5, HLA.out]; omega⟩
      · have HJX2 := Lib.hid hjx2
        clear hjx2 hR hy k0
        gi_wp2
        go_wp2_with fail
        refine bodyPost_ret (v := .tuple #[]) (by simp [results, Try.results48, go_sem]) rfl ?_
        exact ⟨⟨_, rfl⟩, .inr ⟨k + 1, hkx, HJX2.out⟩⟩
    · obtain rfl : off = l.length := by omega
      have hdk := HD.out
      rw [List.drop_length, cut_nil, offs] at hdk
      have hkx : k = xs.length := by have h := congrArg List.length hdk; rw [List.length_drop] at h; simp at h; omega
      subst hkx
      have hl0 : ¬ ((l.length - l.length : Nat) : Int) > 0 := by omega
      clear HD hdk
      go_wp2_with fail
      go_end0
      exact ⟨⟨_, rfl⟩, .inl HJ1.out⟩
end Go.Proofs.Ytchpkgneloiidaa
end
section
/-
  THE WALKS OF LAYER 8 (pmc): Cut.
-/
namespace Pm
open Go Go.RowKit Agg Pg
def nC (l : List Nat) : List Value := l.map fun n : Nat => Value.int .i64 (n : Int)
theorem nC_snoc {l : List Nat} {k : Nat} (h : k < l.length) : nC (l.take (k + 1)) = nC (l.take k) ++ [.int .i64 (l[k] : Int)] := by
  rw [List.take_succ_eq_append_getElem h]; unfold nC; rw [List.map_append]; rfl
theorem part_len {l : List Bd} {n : Nat} (h : Part l n) : n ≤ l.length := by
  induction h with
  | nil => exact Nat.zero_le _
  | cons a l n v h1 _ _ ih =>
    have := List.length_pos_iff.2 h1
    rw [List.length_append]; omega
theorem cut_len {l : List Bd} (h : Okb l) : (cut l).length ≤ l.length := part_len (part_cut l.length l (Nat.le_refl _) h)
theorem offs_at : ∀ (r : List Nat) (o k : Nat) (h : k < r.length), ((offs o r)[k]'(by rw [offs_length]; exact h)).2 = r[k]
  | n :: r, o, 0, _ => rfl
  | n :: r, o, k + 1, h => by simp only [offs, List.getElem_cons_succ]; exact offs_at r (o + n) k (by simpa using h)
end Pm
namespace Go.Proofs.Ytchpkgneloiidaa
open Go.ChangeShapes Go.WideShapes Go.ChangeAt Go.RowKit Agg Pg Pm
attribute [local go_sem] Oper.semAt_some

theorem tiI : TI Try.prog 43 3 1 8 (.int .i64 0) := ⟨by kernel_rfl, by kernel_rfl, rfl, by decide⟩
set_option maxHeartbeats 4000000 in
set_option maxRecDepth 100000 in
theorem cut1_any (l : List Bd) (v : Value) (k0 : Nat) (w : World) (hk : Blk w k0 22 [v]) (hl : Bds w v l) (hok : Okb l) (h1 : 1 ≤ l.length) (h2 : l.length ≤ 256) :
    Calls Try.prog 37 #[.pointer (some ⟨k0, 0, none⟩)] w fun e w' => ∃ u, e = .returned (.tuple #[u, .int .i64 0]) ∧ w'.ownsRow w.heap.size 3 1 u (cut l).length (nC (cut l)) ∧ Below w.heap.size w w' := by
  obtain ⟨b, o, cap, rfl, _, _, _, _⟩ := SlR.pos hl (by decide) (by omega)
  have HK := Lib.hid hk
  have HL := Lib.hid hl
  have HL0 := HL
  have HOK := Lib.hid hok
  have hcl := cut_len hok
  have hcl2 : (cut l).length ≤ 256 := by omega
  clear hk hl hok h1 hcl
  obtain ⟨C, hC⟩ : ∃ C, cut l = C := ⟨_, rfl⟩
  have HC := Lib.hid hC
  rw [hC] at hcl2 ⊢
  clear hC
  have HB := Lib.hid (Below.refl w.heap.size w)
  refine Agg.calls_of_marks Try.func37 rfl ?_
  simp only [Try.ntmps37, List.size_toArray, List.length_cons, List.length_nil, Nat.reduceAdd, Nat.reduceSub, Array.replicate_succ, Array.replicate_zero, List.push_toArray, List.append_toArray, List.nil_append, List.cons_append]
  go_upto_region 2 with (fail)
  refine Agg.wp_at fun w1 hw1 => ?_
  have hb : Below w.heap.size w w1 := by rw [hw1.out]; repeat (first | exact Below.refl _ _ | refine Agg.bel_drew ?_ | refine Agg.bel_alloc ?_ _)
  replace HB := Lib.hid (HB.out.trans (hb.mono HB.out.size))
  replace HL := Lib.hid (HL.out.keep hb)
  replace HK := Lib.hid (HK.out.keep hb)
  clear hb
  have HG : Hid (Blk w1 w.heap.size 43 [.slice none 0 0]) := by show Blk _ _ _ _; rw [hw1.out]; exact Blk.new w 43 #[.slice none 0 0]
  clear hw1
  have c0 := HK.out.cell 0
  simp only [List.getElem?_cons_zero] at c0
  go_wp2_with fail
  clear c0
  have HGK : Hid (w.heap.size < w1.heap.size) := Lib.hid HG.out.lt
  refine (parts_any (some ⟨b, o, none⟩) l.length cap w1).mono ?_
  rintro e wB ⟨rfl, hkb, hbB⟩
  have HGB := Lib.hid (HG.out.keep hbB)
  have HBB := Lib.hid (HB.out.trans (hbB.mono HB.out.size))
  have HKB := Lib.hid hkb
  obtain ⟨kb, hkbn⟩ : ∃ z, w1.heap.size = z := ⟨_, rfl⟩
  rw [hkbn] at HKB HGK ⊢
  have HKL := Lib.hid (And.intro HGK.out hkb.lt)
  rw [hkbn] at HKL
  clear hkb hbB hkbn HG HB HL HK
  have hwk : w.heap.size ≤ kb := Nat.le_of_lt HKL.out.1
  have hIT := parts1_iter l b o cap kb w HL0.out HOK.out hwk
  rw [HC.out] at hIT
  have HIT := Lib.hid hIT
  clear hIT
  go_wp2_with fail
  have hszW := HBB.out.size
  refine Agg.range_iter rfl (Agg.enters Try.func48 (by kernel_rfl) rfl) HIT.out (fun W h => ⟨HBB.out.trans (h.mono hszW), HKB.out.keep h⟩)
    (fun A B h => ?_) (fun A B C h1 h2 => h1.trans h2) (fun A B h => ?_) (fun x => rfl)
    (fun k W => ∃ u, Blk W w.heap.size 43 [u] ∧ W.ownsRow w.heap.size 3 1 u k (nC (C.take k)) ∧ Below w.heap.size w W ∧ wB.heap.size ≤ W.heap.size ∧ (u.ownBlock = none ∨ u.ownBlock ≠ some kb)) (fun _ _ _ => False)
    (fun k A B h hT => ?_) (fun _ _ _ _ h _ => h) (fun k A B h hab => ?_) (fun _ _ _ _ h _ => h) (fun W h => ?_) ?_ ?_ (fun _ _ _ _ _ _ h => h.elim)
  · rcases h with h | h
    · exact ⟨none, ⟨h.os, h.tape, h.output, h.size, fun k hk _ => h.block k hk⟩, fun r e => by cases e⟩
    · exact ⟨some kb, h, fun r e => by cases e; exact HKL.out.2⟩
  · obtain ⟨l', o, o', rfl, hl, ho, hc⟩ := h
    have hT : Turn wB.heap.size A (A.putObj l' o') := ⟨l', o, o', rfl, hl, ho, hc⟩
    exact ⟨hT.below (Below.refl _ _) hszW, by rw [World.putObj_size]; exact Nat.le_refl _, fun _ _ hb => hT.blk hb⟩
  · obtain ⟨u, h1, h2, h3, h4, h5⟩ := h
    have h6 := hT.below h3 hszW
    obtain ⟨l', o, o', rfl, hl, ho, hc⟩ := hT
    have hT : Turn wB.heap.size A (A.putObj l' o') := ⟨l', o, o', rfl, hl, ho, hc⟩
    exact ⟨u, hT.blk h1, hT.own h2, h6, by rw [World.putObj_size]; exact h4, h5⟩
  · obtain ⟨u, h1, h2, h3, h4, h5⟩ := h
    rcases hab with hab | hab
    · exact ⟨u, h1.keep hab, own_keep h2 hab, h3.trans (hab.mono h3.size), Nat.le_trans h4 hab.size, h5⟩
    · exact ⟨u, h1.far' hab (Nat.ne_of_lt HKL.out.1), h2.kept hab h5, h3.trans (grown_below hab h3.size (fun j hj => by cases hj; exact hwk)), Nat.le_trans h4 hab.size, h5⟩
  · exact ⟨_, HGB.out.keep h, World.ownsRow_nil _ _ _ _, HBB.out.trans (h.mono hszW), h.size, .inl rfl⟩
  · rintro lr k hk W hszk ⟨u, h1, h2, h3, h4, h5⟩
    obtain ⟨ux, uc, rfl, _, _⟩ := (ownSl h2).shape
    refine Agg.region_in Agg.false_no rfl ?_
    simp only [List.zip_toArray, List.zip_cons_cons, List.zip_nil_left, List.zip_nil_right, List.foldl_toArray, List.foldl_cons, List.foldl_nil, List.setIfInBounds_toArray, List.set_cons_succ, List.set_cons_zero]
    go_wp2_with fail
    refine ⟨KeepsFrom.refl _ _, ⟨Below.refl _ _, Nat.le_refl _, fun _ _ h => h⟩, fun W2 hT => ?_⟩
    have hkc : k < C.length := by rw [offs_length] at hk; exact hk
    have hxk := offs_at C 0 k hkc
    obtain ⟨⟨po, pn⟩, hpe⟩ : ∃ z, (offs 0 C)[k] = z := ⟨_, rfl⟩
    rw [hpe] at hxk
    simp only at hxk
    have H1 := Lib.hid (hT.blk h1)
    have HD := Lib.hid (hT.own h2)
    have HBX := Lib.hid (hT.below h3 hszW)
    have hsW : W2.heap.size = W.heap.size := by obtain ⟨l, o, o', rfl, _⟩ := hT; exact World.putObj_size
    have HS2 : Hid (wB.heap.size ≤ W2.heap.size) := Lib.hid (by omega)
    have H5 := Lib.hid h5
    have HNC := Lib.hid (nC_snoc hkc)
    rw [← hxk] at HNC
    rw [hpe]
    clear h1 h2 h3 h4 h5 hT hsW hszk HIT HBB HGB HKB hpe hxk
    refine wpIn_block ?_
    refine Agg.region_in (Agg.block_no Agg.roundEnd_no) rfl ?_
    have c0 := H1.out.cell 0
    simp only [List.getElem?_cons_zero] at c0
    have hbA : Below W2.heap.size W2 (W2.alloc (.cells #[.int .i64 (pn : Int)] 3)) := (Below.refl _ _).alloc (Nat.le_refl _) _
    have hC3 := own_keep HD.out hbA
    have hsl : SlR (W2.alloc (.cells #[.int .i64 (pn : Int)] 3)) (.slice (some ⟨W2.heap.size, 0, none⟩) 1 1) 1 1 [.int .i64 (pn : Int)] := NewSl.sl (b0 := 0) (e := 3) ⟨_, rfl, Nat.zero_le _, Blk.new W2 3 #[.int .i64 (pn : Int)]⟩ rfl (by unfold maxLen; decide)
    have hlw : w.heap.size ≤ (W2.alloc (.cells #[.int .i64 (pn : Int)] 3)).heap.size := Nat.le_trans hszW (Nat.le_trans HS2.out hbA.size)
    have hmx : k + 1 ≤ maxLen := by unfold maxLen; omega
    have hby : (k + 1) * 8 ≤ 140737488355328 := by omega
    have hone : ∀ u ∈ [Value.int .i64 (pn : Int)], u.oneCell' = true := by simp [Value.oneCell']
    have hT3 := H1.out.keep hbA
    have hne := own_apart hC3 hT3 (by decide)
    go_wp2_with (first
      | (refine Agg.append2 tiI (.tmp 8) (.tmp 11) rfl rfl w.heap.size (v := .slice ux k uc) rfl hC3 rfl hsl hone hmx hby hlw (fun v2 w4 hC4 hg4 hwh => ?_); obtain ⟨v2x, v2c, rfl, _, _⟩ := (ownSl hC4).shape; simp only [Act.put, List.setIfInBounds_toArray, List.set_cons_succ, List.set_cons_zero])
      | (refine Agg.gStoreCell 0 (.slice v2x (k + 1 : Nat) v2c) (blk_row hT3 hg4 hne) rfl rfl rfl rfl rfl (by kernel_rfl) rfl (by simp) rfl (fun w13 hb13 hg13 => ?_)))
    simp only [spliced, List.take_zero, List.drop_succ_cons, List.nil_append, List.drop_nil, List.append_nil, List.length_cons, List.length_nil] at hb13
    have hT4 := blk_row hT3 hg4 hne
    have hC13 := hC4.kept hg13 (own_apart hC4 hT4 (by decide))
    have hB4 := (HBX.out.trans (hbA.mono HBX.out.size)).trans (grown_below hg4 hlw (own_block hC3))
    have hB13 := hB4.trans (grown_below hg13 (Nat.le_trans hlw hg4.size) (fun j hj => by cases hj; exact Nat.le_refl _))
    have hs13 : W2.heap.size ≤ w13.heap.size := Nat.le_trans hbA.size (Nat.le_trans hg4.size hg13.size)
    have hn2 : w.heap.size ≤ W2.heap.size := Nat.le_trans hszW HS2.out
    refine ⟨((Agg.keeps_below hbA).trans (Agg.keeps_own hC3 hg4)).trans (Agg.keeps_blk hT4 hg13), ⟨?_, hs13, fun g cs hb => ?_⟩, ⟨_, hb13, ?_, hB13, Nat.le_trans HS2.out hs13, ?_⟩⟩
    · exact ((hbA.mono hn2).trans (grown_below hg4 (Nat.le_trans hn2 hbA.size) (own_block hC3))).trans (grown_below hg13 (Nat.le_trans (Nat.le_trans hn2 hbA.size) hg4.size) (fun j hj => by cases hj; exact Nat.le_refl _))
    · have hbK := hb.keep hbA
      have hb4 := blk_row hbK hg4 (own_apart hC3 hbK (by decide))
      have hx := blk_ne hT4 hb4 (by decide)
      exact blk_row hb4 hg13 (.inr (fun e => hx (by injection e)))
    · rw [HNC.out]; exact hC13
    · rcases hwh with e | e
      · rw [e]; exact H5.out
      · rw [e, World.size_alloc]
        exact .inr (fun h => by have := HKL.out.2; have := HS2.out; injection h with h; omega)
  · rintro D W hD ⟨u, h1, h2, h3, h4, h5⟩ hDl
    rw [offs_length, List.take_length] at h2
    obtain ⟨ux, uc, rfl, _, _⟩ := (ownSl h2).shape
    have c0 := h1.cell 0
    simp only [List.getElem?_cons_zero] at c0
    have hT := Agg.shut_turn hDl hD
    have HA := Lib.hid (hT.own h2)
    have HCB := Lib.hid (hT.below h3 hszW)
    have HDl := Lib.hid hDl
    clear h1 h2 h3 h4 h5 hT hDl
    go_wp2_with fail
    refine Agg.marks_ret1 (v := .tuple #[.slice ux C.length uc, .int .i64 0]) HDl.out ?_ ⟨_, rfl, HA.out, HCB.out⟩
    simp [results, Try.results37, go_sem]
end Go.Proofs.Ytchpkgneloiidaa
end
