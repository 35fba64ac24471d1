/-
  THE WALK OF LAYER 15's STATEMENT CrcOther (crc).
-/
import Derived.Test.YthbljhiabgkabaaCrcLaw4
import Derived.Test.YthbljhiabgkabaaOpen
import Derived.Test.YthbljhiabgkabaaEq
import Derived.Test.YthbljhiabgkabaaKn
import Derived.Test.YthbljhiabgkabaaCopy
namespace Go.Proofs.Ythbljhiabgkabaa
open Go.ChangeShapes Go.WideShapes Go.ChangeAt Go.RowKit Agg

theorem good_four {w : World} {fuel : Nat} {c : Array Value} (h : Agg.Good Try.prog w fuel 39 c.toList) : ∃ a b d e : UInt8, c = #[.int .u8 (a.toNat : Int), .int .u8 (b.toNat : Int), .int .u8 (d.toNat : Int), .int .u8 (e.toNat : Int)] := by
  cases fuel with
  | zero => exact h.elim
  | succ n =>
    unfold Agg.Good at h
    have hu : Try.prog.underlying 39 = some (.array 4 5) := by kernel_rfl
    have hc : Try.prog.cellsOf 39 = 4 := by kernel_rfl
    have hc1 : Try.prog.cellsOf 5 = 1 := by kernel_rfl
    rw [hu] at h
    simp only [hc, hc1, Nat.mul_one] at h
    obtain ⟨hl, hi⟩ := h
    have key : ∀ i, i < 4 → ∃ a : UInt8, (c.toList.drop i).take 1 = [.int .u8 (a.toNat : Int)] := by
      intro i h4
      have hg := hi i h4
      cases n with
      | zero => exact hg.elim
      | succ n =>
        unfold Agg.Good at hg
        rw [Try.underlying5] at hg
        obtain ⟨z, hz, h0, h1⟩ := hg
        simp only [IntKind.min, IntKind.max, IntKind.signed, IntKind.bits] at h0 h1
        have h0' : 0 ≤ z := by simpa using h0
        have h1' : z ≤ 255 := by simpa using h1
        refine ⟨UInt8.ofNat z.toNat, ?_⟩
        rw [hz, UInt8.toNat_ofNat']
        congr 2; omega
    obtain ⟨c⟩ := c
    simp only at hl key
    match c, hl with
    | [x, y, z, u], _ =>
      obtain ⟨a, ha⟩ := key 0 (by decide)
      obtain ⟨b, hb⟩ := key 1 (by decide)
      obtain ⟨d, hd⟩ := key 2 (by decide)
      obtain ⟨e, he⟩ := key 3 (by decide)
      simp at ha hb hd he
      exact ⟨a, b, d, e, by rw [ha, hb, hd, he]⟩
theorem own_take (l p : List UInt8) (v : Value) (w : World) (hv : Bytes w v l) (hp : p = l.take 500) :
    Calls Try.prog 12 #[v] w fun e w' => ∃ g cap, e = .returned (.slice (some ⟨g, 0, none⟩) p.length cap) ∧ w'.ownsRow w.heap.size 5 1 (.slice (some ⟨g, 0, none⟩) p.length cap) p.length (bv p) ∧ Below w.heap.size w w' := by
  have hml : min l.length 500 = (l.take 500).length := by simp [Nat.min_comm]
  subst hp
  rw [← hml]
  exact own_bytes_any l v w hv
theorem flat_four : Flat Try.prog 2 39 [some .u8, some .u8, some .u8, some .u8] := ⟨by kernel_rfl, by kernel_rfl, by kernel_rfl, by kernel_rfl, by decide, by kernel_rfl⟩

set_option maxHeartbeats 1000000 in
theorem CrcOther_walk (v : Value) (l : List UInt8) (a1 : Int) (c2 : Array Value) (fuel : Nat) (w : World) (h0 : Bytes w v l) (_ : l.length ≤ maxLen) (_ : (Lit.int .i64 a1).wf = true) (h2 : Agg.Good Try.prog w fuel 39 c2.toList) :
    Calls Try.prog 7 #[v, .int .i64 a1, .agg c2] w fun e w' => e = .returned (.bool true) ∧ Below w.heap.size w w' := by
  obtain ⟨b0, b1, b2, b3, rfl⟩ := good_four h2
  obtain ⟨p, hp⟩ : ∃ p, p = l.take 500 := ⟨_, rfl⟩
  have hp5 : p.length ≤ 500 := by rw [hp]; simp; omega
  have HP := Lib.hid hp
  obtain ⟨x, cx, rfl, _, _⟩ := h0.shape
  have H0 := Lib.hid h0
  clear h0 h2 hp
  have HB := Lib.hid (Below.refl w.heap.size w)
  go_enter Try.func7, Try.ntmps7
  go_wp2_with fail
  refine Agg.calls_at fun w1 hw1 => ?_
  have hb : Below w.heap.size w w1 := by rw [hw1.out]; repeat (first | exact Below.refl _ _ | refine Agg.bel_drew ?_ | refine Agg.bel_alloc ?_ _)
  replace HB := Lib.hid (HB.out.trans (hb.mono HB.out.size))
  replace H0 := Lib.hid (H0.out.keep hb)
  clear hb
  have HF := Lib.hid ((by rw [hw1.out]; exact Blk.new w 39 #[.int .u8 (b0.toNat : Int), .int .u8 (b1.toNat : Int), .int .u8 (b2.toNat : Int), .int .u8 (b3.toNat : Int)] : Blk w1 w.heap.size 39 [.int .u8 (b0.toNat : Int), .int .u8 (b1.toNat : Int), .int .u8 (b2.toNat : Int), .int .u8 (b3.toNat : Int)]))
  clear hw1
  refine (wakes_any w1).mono ?_
  rintro e w2 ⟨rfl, hb⟩
  replace HB := Lib.hid (HB.out.trans (hb.mono HB.out.size))
  replace H0 := Lib.hid (H0.out.keep hb)
  replace HF := Lib.hid (HF.out.keep hb)
  clear hb
  go_wp2_with fail
  refine (own_take l p _ w2 H0.out HP.out).mono ?_
  rintro e w3 ⟨g3, cap3, rfl, ho, hb⟩
  replace HB := Lib.hid (HB.out.trans (hb.mono HB.out.size))
  replace H0 := Lib.hid (H0.out.keep hb)
  replace HF := Lib.hid (HF.out.keep hb)
  clear hb
  have HA := Lib.hid (ho)
  clear ho
  have hg3 := (own_cap HA.out).2.2.2
  have SA := Lib.hid (HA.out)
  have SF := Lib.hid (HF.out)
  have SB := Lib.hid (HB.out)
  go_wp2_with fail
  refine (own_take l p _ w3 H0.out HP.out).mono ?_
  rintro e w4 ⟨g4, cap4, rfl, ho, hb⟩
  have S34 := Lib.hid hb
  replace HA := Lib.hid (HA.out.keep hb)
  have HC := Lib.hid ho
  have HB4 := Lib.hid (HB.out.trans (hb.mono HB.out.size))
  have hc4 := own_cap ho
  clear hb ho HF H0 HB
  by_cases hl4 : p.length < 4
  · replace HB := HB4
    go_wp2_with fail
    refine (sum_one p _ _ _ w4 (own_bytes HA.out rfl) (by unfold maxLen; omega)).mono ?_
    rintro e w5 ⟨rfl, hb⟩
    replace HB := Lib.hid (HB.out.trans (hb.mono HB.out.size))
    replace HA := Lib.hid (HA.out.keep hb)
    replace HC := Lib.hid (HC.out.keep hb)
    clear hb
    go_wp2_with fail
    refine (sum_one p _ _ _ w5 (own_bytes HC.out rfl) (by unfold maxLen; omega)).mono ?_
    rintro e w6 ⟨rfl, hb⟩
    replace HB := Lib.hid (HB.out.trans (hb.mono HB.out.size))
    replace HA := Lib.hid (HA.out.keep hb)
    replace HC := Lib.hid (HC.out.keep hb)
    clear hb
    go_wp2_with fail
    go_ret
    exact ⟨rfl, HB.out⟩
  · obtain ⟨pos, hpos, hpe⟩ := u64_mod_n a1 (p.length - 3) (by omega) (by omega)
    have e1 : ((p.length - 3 : Nat) : Int) = (p.length : Int) - 3 := by omega
    rw [e1] at hpe
    have hpe2 : wrap64 ((IntKind.u64.wrap a1).tmod ((p.length : Int) - 3)) = (pos : Int) := by
      rw [← hpe]
      congr 2
      simp [IntKind.wrap, IntKind.bits, IntKind.signed]; omega
    have hpl : pos + 4 ≤ p.length := by omega
    clear hpos hpe e1
    go_wp2_with fail
    rw [hpe2]
    clear hpe2
    obtain ⟨pre, q0, q1, q2, q3, post, hpp, hpre⟩ : ∃ (pre : List UInt8) (q0 q1 q2 q3 : UInt8) (post : List UInt8), p = pre ++ [q0, q1, q2, q3] ++ post ∧ pre.length = pos := by
      refine ⟨p.take pos, p[pos], p[pos + 1], p[pos + 2], p[pos + 3], p.drop (pos + 4), ?_, by simp; omega⟩
      have e4 : p.drop pos = [p[pos], p[pos + 1], p[pos + 2], p[pos + 3]] ++ p.drop (pos + 4) := by
        rw [List.drop_eq_getElem_cons (by omega), List.drop_eq_getElem_cons (by omega), List.drop_eq_getElem_cons (by omega), List.drop_eq_getElem_cons (by omega)]; rfl
      rw [List.append_assoc, ← e4, List.take_append_drop]
    refine Agg.stillTail 4 (by kernel_rfl) (by kernel_rfl) (fun K hK => ?_)
    simp only [List.take_succ_cons, List.take_zero]
    refine Agg.stMove rfl (Agg.wn rfl) rfl ?_; simp only [Agg.ev, List.getD_cons_zero, List.getD_cons_succ, List.set_cons_succ, List.set_cons_zero]
    refine Agg.stMove rfl (Agg.wn rfl) rfl ?_; simp only [Agg.ev, List.getD_cons_zero, List.getD_cons_succ, List.set_cons_succ, List.set_cons_zero]
    refine Agg.stVal (Agg.wn rfl) rfl (.slice (some ⟨g4, 0 + pos * 1, none⟩) (p.length - pos) (cap4 - pos)) ?_ ?_
    · have h := run_slice_from ti25 g4 0 p.length cap4 pos (by omega) (by omega) w4.drew
      simp only [execOp, Agg.ev, List.getD_cons_zero, List.getD_cons_succ, Option.map_none, Option.map_some, Sem.run_bind, h, Result.andThen_ok, Sem.run_pure]
    simp only [List.set_cons_succ, List.set_cons_zero]
    refine Agg.stVal (Agg.wn rfl) rfl (.slice (some ⟨w.heap.size, 0, none⟩) 4 4) (by kernel_rfl) ?_
    simp only [List.set_cons_succ, List.set_cons_zero]
    refine wpStill_nil (hK _ ?_)
    clear hK K
    simp only [List.drop_succ_cons, List.drop_zero]
    have hsl : SlR w4.drew (.slice (some ⟨w.heap.size, 0, none⟩) 4 4) 1 4 [.int .u8 (b0.toNat : Int), .int .u8 (b1.toNat : Int), .int .u8 (b2.toNat : Int), .int .u8 (b3.toNat : Int)] := by
      refine ⟨rfl, .inr ⟨_, 4, rfl, Nat.le_refl _, by decide, fun i u hu => ?_⟩⟩
      rw [add_none, Nat.zero_add]
      exact ((SF.out.keep S34.out).cell i).trans hu
    have hk4 : 4 = Nat.min 4 (p.length - pos) := (Nat.min_eq_left (by omega)).symm
    refine Agg.copy ti25 (.tmp 36) (.tmp 37) rfl rfl (w := w4.drew) (base := w3.heap.size) (g := g4) (n := p.length) (cap := cap4) (xs := bv p) HC.out pos (p.length - pos) (cap4 - pos) rfl (by omega) rfl hsl (by simp [Value.oneCell']) 4 hk4 hpl (fun w6 ho6 hg6 => ?_)
    simp only [Act.put, List.setIfInBounds_toArray, List.set_cons_succ, List.set_cons_zero]
    have B36 : Below w3.heap.size w3 w6 := (bel_drew S34.out).trans (grown_below hg6 S34.out.size (fun k hk => by cases hk; exact hc4.2.2.1))
    have HB6 := Lib.hid (SB.out.trans (B36.mono SB.out.size))
    have HA6 := Lib.hid (SA.out.keep B36)
    have HF6 := Lib.hid (SF.out.keep B36)
    have hsp : spliced (bv p) (pos * 1) (List.take (4 * 1) [.int .u8 (b0.toNat : Int), .int .u8 (b1.toNat : Int), .int .u8 (b2.toNat : Int), .int .u8 (b3.toNat : Int)]) = bv (pre ++ [b0, b1, b2, b3] ++ post) := by
      rw [hpp, bv_append, bv_append, bv_append, bv_append]
      exact spliced_mid (bv pre) _ _ _ _ (by rw [bv_length, hpre, Nat.mul_one]) rfl
    have HC6 : Hid (w6.ownsRow w3.heap.size 5 1 (.slice (some ⟨g4, 0, none⟩) p.length cap4) p.length (bv (pre ++ [b0, b1, b2, b3] ++ post))) := by
      show w6.ownsRow _ _ _ _ _ _
      rw [← hsp]; exact ho6.out
    have hlen : (pre ++ [b0, b1, b2, b3] ++ post).length = p.length := by rw [hpp]; simp
    have HL := Lib.hid hlen
    have hgetq : ∀ i u, [q0, q1, q2, q3][i]? = some u → w6.cell? ⟨g3, pos + i, none⟩ = some (.int .u8 (u.toNat : Int)) := by
      intro i u hu
      have hi : i < 4 := by
        have := (List.getElem?_eq_some_iff.1 hu).1; simpa using this
      have h1 := (ownSl HA6.out).pos (by decide) (by omega)
      obtain ⟨bb, oo, cc, hv, _, _, hcell, _⟩ := h1
      simp only [Value.slice.injEq, Option.some.injEq, Addr.mk.injEq, and_true, true_and] at hv
      obtain ⟨⟨rfl, rfl⟩, rfl⟩ := hv
      rw [← hcell (pos + i) (.int .u8 (u.toNat : Int)) ?_, Nat.zero_add]
      rw [hpp, ← hpre]
      have : (pre ++ [q0, q1, q2, q3] ++ post)[pre.length + i]? = some u := by
        rw [List.append_assoc, List.getElem?_append_right (by omega), Nat.add_sub_cancel_left, List.getElem?_append_left (by simpa using hi), hu]
      simp only [bv, List.getElem?_map, this, Option.map_some]
    have c0 := hgetq 0 q0 rfl
    have c1 := hgetq 1 q1 rfl
    have c2 := hgetq 2 q2 rfl
    have c3 := hgetq 3 q3 rfl
    rw [Nat.add_zero] at c0
    have d0 := HF6.out.cell 0
    have d1 := HF6.out.cell 1
    have d2 := HF6.out.cell 2
    have d3 := HF6.out.cell 3
    simp only [List.getElem?_cons_zero, List.getElem?_cons_succ] at d0 d1 d2 d3
    obtain ⟨same, hsame⟩ : ∃ same, same = decide ([q0, q1, q2, q3] = [b0, b1, b2, b3]) := ⟨_, rfl⟩
    have hfit : ∀ a b c d : UInt8, Agg.Fits [some .u8, some .u8, some .u8, some .u8] [.int .u8 (a.toNat : Int), .int .u8 (b.toNat : Int), .int .u8 (c.toNat : Int), .int .u8 (d.toNat : Int)] := by
      have h1 : ∀ a : UInt8, Agg.fit1 (some .u8) (.int .u8 (a.toNat : Int)) := fun a => ⟨_, rfl, by have := a.toNat_lt; simp [Lit.wf, IntKind.min, IntKind.max, IntKind.signed, IntKind.bits]; omega⟩
      intro a b c d
      exact ⟨h1 a, h1 b, h1 c, h1 d, trivial⟩
    have heq := flat_four.eql (hfit b0 b1 b2 b3) (hfit q0 q1 q2 q3) same (by
      have key : ∀ a b : UInt8, (Value.int .u8 (a.toNat : Int) = .int .u8 (b.toNat : Int)) ↔ a = b := by
        intro a b
        constructor
        · intro h; injection h with _ h; exact UInt8.toNat_inj.1 (by omega)
        · rintro rfl; rfl
      rw [hsame, decide_eq_true_iff]
      simp only [List.cons.injEq, key, and_true]
      constructor <;> (rintro ⟨i0, i1, i2, i3⟩; exact ⟨i0.symm, i1.symm, i2.symm, i3.symm⟩))
    have hnum : (((Crc.sum p).toNat : Int) == ((Crc.sum (pre ++ [b0, b1, b2, b3] ++ post)).toNat : Int)) = same := by
      rw [hsame, Bool.eq_iff_iff, beq_iff_eq, decide_eq_true_iff, ← Crc.sum_other pre post, hpp]
      constructor
      · intro h; exact BitVec.eq_of_toNat_eq (by omega)
      · intro h; rw [h]
    clear hgetq hfit hsame hsp hsl hk4 ho6 hg6 hpp hpre hlen B36 HC S34 SB SA SF
    have HN := Lib.hid hnum
    clear hnum
    generalize pre ++ [b0, b1, b2, b3] ++ post = r at *
    go_wp2_with fail
    go_quiet (fail)
    replace HB := Lib.hid (bel_drewN HB6.out nq)
    replace HA := Lib.hid (show (w6.drewN nq).ownsRow w2.heap.size 5 1 (.slice (some ⟨g3, 0, none⟩) p.length cap3) p.length (bv p) from HA6.out)
    have HC := Lib.hid (show (w6.drewN nq).ownsRow w3.heap.size 5 1 (.slice (some ⟨g4, 0, none⟩) p.length cap4) p.length (bv r) from HC6.out)
    clear HA6 HC6 HF6 HB6 HB4
    go_wp2_with fail
    refine (sum_one p _ _ _ (w6.drewN nq) (own_bytes HA.out rfl) (by unfold maxLen; omega)).mono ?_
    rintro e w7 ⟨rfl, hb⟩
    replace HB := Lib.hid (HB.out.trans (hb.mono HB.out.size))
    replace HA := Lib.hid (HA.out.keep hb)
    replace HC := Lib.hid (HC.out.keep hb)
    clear hb
    go_wp2_with fail
    refine (sum_one r _ _ _ w7 (own_bytes HC.out HL.out) (by rw [HL.out]; unfold maxLen; omega)).mono ?_
    rintro e w8 ⟨rfl, hb⟩
    replace HB := Lib.hid (HB.out.trans (hb.mono HB.out.size))
    replace HA := Lib.hid (HA.out.keep hb)
    replace HC := Lib.hid (HC.out.keep hb)
    clear hb
    have hnum := HN.out
    go_wp2_with fail
    go_ret
    exact ⟨rfl, HB.out⟩
end Go.Proofs.Ythbljhiabgkabaa
