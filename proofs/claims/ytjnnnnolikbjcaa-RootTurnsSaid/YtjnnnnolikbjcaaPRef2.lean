/-
  THE WALKS OF LAYER 15 (crc), fifth part: the reference's Holds; slices.Equal of bytes.
-/
import Derived.Test.YtjnnnnolikbjcaaPRef
import Derived.Test.YtjnnnnolikbjcaaAgg2
namespace Go.Proofs.Ytjnnnnolikbjcaa
open Go.ChangeShapes Go.WideShapes Go.ChangeAt Go.RowKit Agg

theorem four_bytes (s : Crc.W) : ∃ d0 d1 d2 d3 : UInt8, Crc.bytes s = [d0, d1, d2, d3] := ⟨_, _, _, _, rfl⟩
theorem byte_eq (a b : UInt8) : ((a.toNat : Int) == (b.toNat : Int)) = (a == b) := by
  by_cases h : a = b
  · rw [h]; simp
  · have h2 : ¬ (a.toNat : Int) = (b.toNat : Int) := fun e => h (UInt8.toNat_inj.1 (by omega))
    rw [beq_false_of_ne h, beq_false_of_ne h2]

/-- what each operation of the last comparison yields -/
def HoldG (S T a0 a1 a2 a3 b0 b1 b2 b3 c0 c1 c2 c3 d0 d1 d2 d3 : Value) (m : Int) (q0 q1 q2 q3 Q1 Q2 Q3 Q4 : Bool) (i : Nat) (v : Value) (_ : World) : Prop :=
  match i with
  | 0 => v = S
  | 1 => v = .int .i64 m
  | 2 => v = a0
  | 3 => v = c0
  | 4 => v = T
  | 5 => v = b0
  | 6 => v = d0
  | 7 => v = .bool q0
  | 8 => v = .bool Q1
  | 9 => v = gv Q1 S
  | 10 => v = gv Q1 (.int .i64 m)
  | 11 => v = gv Q1 (.int .i64 (m + 1))
  | 12 => v = gv Q1 a1
  | 13 => v = gv Q1 c1
  | 14 => v = gv Q1 T
  | 15 => v = gv Q1 b1
  | 16 => v = gv Q1 d1
  | 17 => v = gv Q1 (.bool q1)
  | 18 => v = .bool Q2
  | 19 => v = .bool Q2
  | 20 => v = gv Q2 S
  | 21 => v = gv Q2 (.int .i64 m)
  | 22 => v = gv Q2 (.int .i64 (m + 2))
  | 23 => v = gv Q2 a2
  | 24 => v = gv Q2 c2
  | 25 => v = gv Q2 T
  | 26 => v = gv Q2 b2
  | 27 => v = gv Q2 d2
  | 28 => v = gv Q2 (.bool q2)
  | 29 => v = .bool Q3
  | 30 => v = .bool Q3
  | 31 => v = gv Q3 S
  | 32 => v = gv Q3 (.int .i64 m)
  | 33 => v = gv Q3 (.int .i64 (m + 3))
  | 34 => v = gv Q3 a3
  | 35 => v = gv Q3 c3
  | 36 => v = gv Q3 T
  | 37 => v = gv Q3 b3
  | 38 => v = gv Q3 d3
  | 39 => v = gv Q3 (.bool q3)
  | 40 => v = .bool Q4
  | 41 => v = .bool Q4
  | _ => True
theorem HoldG_stable {S T a0 a1 a2 a3 b0 b1 b2 b3 c0 c1 c2 c3 d0 d1 d2 d3 : Value} {m : Int} {q0 q1 q2 q3 Q1 Q2 Q3 Q4 : Bool} (i : Nat) (v : Value) (w w' : World) (h : HoldG S T a0 a1 a2 a3 b0 b1 b2 b3 c0 c1 c2 c3 d0 d1 d2 d3 m q0 q1 q2 q3 Q1 Q2 Q3 Q4 i v w) (_ : Below w.heap.size w w') : HoldG S T a0 a1 a2 a3 b0 b1 b2 b3 c0 c1 c2 c3 d0 d1 d2 d3 m q0 q1 q2 q3 Q1 Q2 Q3 Q4 i v w' := h

set_option maxHeartbeats 2000000 in
set_option maxRecDepth 100000 in
theorem rholds_four (p : List UInt8) (c0 c1 c2 c3 : UInt8) (v : Value) (w : World) (hv : Bytes w v (p ++ [c0, c1, c2, c3])) (d0 d1 d2 d3 : UInt8) (hd : Crc.bytes (Crc.sum p) = [d0, d1, d2, d3]) :
    Calls Try.prog 73 #[v] w fun e w' => e = .returned (.bool (c0 == d0 && (c1 == d1 && (c2 == d2 && c3 == d3)))) ∧ Below w.heap.size w w' := by
  have hs : SlR w v 1 (p ++ [c0, c1, c2, c3]).length (bv (p ++ [c0, c1, c2, c3])) := hv
  have hlen : (p ++ [c0, c1, c2, c3]).length = p.length + 4 := by simp
  rw [hlen] at hs
  obtain ⟨b, o, cap, rfl, hc1, hc2, hcs, hbl⟩ := SlR.pos hs (by decide) (by omega)
  have hc3 : cap ≤ 9223372036854775807 := by unfold maxLen at hc2; omega
  have hg : ∀ j (hj : j < 4), w.cell? ⟨b, o + (p.length + j), none⟩ = some (.int .u8 ([c0, c1, c2, c3][j].toNat : Int)) := by
    intro j hj
    refine hcs (p.length + j) _ ?_
    rw [bv_get _ _ (by simp; omega)]
    congr 4
    rw [List.getElem_append_right (by omega)]
    simp
  have g0 := hg 0 (by omega)
  have g1 := hg 1 (by omega)
  have g2 := hg 2 (by omega)
  have g3 := hg 3 (by omega)
  rw [Nat.add_zero] at g0
  simp only [List.getElem_cons_zero, List.getElem_cons_succ] at g0 g1 g2 g3
  have htk := hs.take p.length (by omega)
  have hby : Bytes w (.slice (some ⟨b, o, none⟩) p.length cap) p := by
    have e : (bv (p ++ [c0, c1, c2, c3])).take (p.length * 1) = bv p := by rw [← bv_take, Nat.mul_one, List.take_left]
    rw [e] at htk; exact htk
  have HBY := Lib.hid hby
  have HD := Lib.hid hd
  clear hv hs hlen hc2 hcs hg htk hby hd
  generalize hm : p.length = m at *
  clear hm
  have hsub : (m : Int) ≤ cap := by omega
  go_enter Try.func73, Try.ntmps73
  go_wp2_with fail
  refine (rsum_any p _ _ HBY.out).mono ?_
  rintro e w1 ⟨rfl, rfl⟩
  go_wp2_with fail
  refine (rbytes_any (Crc.sum p) _).mono ?_
  rintro e w1 ⟨v', rfl, ho, hb⟩
  rw [HD.out] at ho
  obtain ⟨g, q, cap', rfl, _, _, hcs2, _⟩ := SlR.pos (ownSl ho) (by decide) (by decide)
  have f0 := hcs2 0 _ (bv_get _ 0 (by simp))
  have f1 := hcs2 1 _ (bv_get _ 1 (by simp))
  have f2 := hcs2 2 _ (bv_get _ 2 (by simp))
  have f3 := hcs2 3 _ (bv_get _ 3 (by simp))
  simp only [List.getElem_cons_zero, List.getElem_cons_succ, Nat.add_zero] at f0 f1 f2 f3
  replace g0 := cell_keep hb g0
  replace g1 := cell_keep hb g1
  replace g2 := cell_keep hb g2
  replace g3 := cell_keep hb g3
  have HB := Lib.hid hb
  clear hb ho hcs2 hbl
  have e0 := byte_eq c0 d0
  have e1 := byte_eq c1 d1
  have e2 := byte_eq c2 d2
  have e3 := byte_eq c3 d3
  replace g0 : w1.drew.cell? ⟨b, o + (m : Int).toNat * 1, none⟩ = some (.int .u8 (c0.toNat : Int)) := by rw [show o + (m : Int).toNat * 1 = o + m by omega]; exact g0
  replace g1 : w1.drew.cell? ⟨b, o + ((m : Int) + 1).toNat * 1, none⟩ = some (.int .u8 (c1.toNat : Int)) := by rw [show o + ((m : Int) + 1).toNat * 1 = o + (m + 1) by omega]; exact g1
  replace g2 : w1.drew.cell? ⟨b, o + ((m : Int) + 2).toNat * 1, none⟩ = some (.int .u8 (c2.toNat : Int)) := by rw [show o + ((m : Int) + 2).toNat * 1 = o + (m + 2) by omega]; exact g2
  replace g3 : w1.drew.cell? ⟨b, o + ((m : Int) + 3).toNat * 1, none⟩ = some (.int .u8 (c3.toNat : Int)) := by rw [show o + ((m : Int) + 3).toNat * 1 = o + (m + 3) by omega]; exact g3
  replace f0 : w1.drew.cell? ⟨g, q + (0 : Int).toNat * 1, none⟩ = some (.int .u8 (d0.toNat : Int)) := f0
  replace f1 : w1.drew.cell? ⟨g, q + (1 : Int).toNat * 1, none⟩ = some (.int .u8 (d1.toNat : Int)) := f1
  replace f2 : w1.drew.cell? ⟨g, q + (2 : Int).toNat * 1, none⟩ = some (.int .u8 (d2.toNat : Int)) := f2
  replace f3 : w1.drew.cell? ⟨g, q + (3 : Int).toNat * 1, none⟩ = some (.int .u8 (d3.toNat : Int)) := f3
  obtain ⟨q0, hq0⟩ : ∃ q, q = (c0 == d0) := ⟨_, rfl⟩
  rw [← hq0] at e0
  have V0 := Lib.hid hq0
  clear hq0
  obtain ⟨q1, hq1⟩ : ∃ q, q = (c1 == d1) := ⟨_, rfl⟩
  rw [← hq1] at e1
  have V1 := Lib.hid hq1
  clear hq1
  obtain ⟨q2, hq2⟩ : ∃ q, q = (c2 == d2) := ⟨_, rfl⟩
  rw [← hq2] at e2
  have V2 := Lib.hid hq2
  clear hq2
  obtain ⟨q3, hq3⟩ : ∃ q, q = (c3 == d3) := ⟨_, rfl⟩
  rw [← hq3] at e3
  have V3 := Lib.hid hq3
  clear hq3
  have E0 := Lib.hid e0
  have E1 := Lib.hid e1
  have E2 := Lib.hid e2
  have E3 := Lib.hid e3
  clear e0 e1 e2 e3
  go_wp2_with fail
  obtain ⟨Q1, hQ1⟩ : ∃ Q1, Q1 = q0 := ⟨_, rfl⟩
  obtain ⟨Q2, hQ2⟩ : ∃ Q2, Q2 = (Q1 && q1) := ⟨_, rfl⟩
  obtain ⟨Q3, hQ3⟩ : ∃ Q3, Q3 = (Q2 && q2) := ⟨_, rfl⟩
  obtain ⟨Q4, hQ4⟩ : ∃ Q4, Q4 = (Q3 && q3) := ⟨_, rfl⟩
  have Z1 := Lib.hid hQ1
  have Z2 := Lib.hid hQ2
  have Z3 := Lib.hid hQ3
  have Z4 := Lib.hid hQ4
  clear hQ1 hQ2 hQ3 hQ4
  refine Agg.free (HoldG (.slice (some ⟨b, o, none⟩) (m + 4) cap) (.slice (some ⟨g, q, none⟩) 4 cap') (.pointer (some ⟨b, o + (m : Int).toNat * 1, none⟩)) (.pointer (some ⟨b, o + ((m : Int) + 1).toNat * 1, none⟩)) (.pointer (some ⟨b, o + ((m : Int) + 2).toNat * 1, none⟩)) (.pointer (some ⟨b, o + ((m : Int) + 3).toNat * 1, none⟩))
    (.pointer (some ⟨g, q + (0 : Int).toNat * 1, none⟩)) (.pointer (some ⟨g, q + (1 : Int).toNat * 1, none⟩)) (.pointer (some ⟨g, q + (2 : Int).toNat * 1, none⟩)) (.pointer (some ⟨g, q + (3 : Int).toNat * 1, none⟩))
    (.int .u8 (c0.toNat : Int)) (.int .u8 (c1.toNat : Int)) (.int .u8 (c2.toNat : Int)) (.int .u8 (c3.toNat : Int)) (.int .u8 (d0.toNat : Int)) (.int .u8 (d1.toNat : Int)) (.int .u8 (d2.toNat : Int)) (.int .u8 (d3.toNat : Int)) m q0 q1 q2 q3 Q1 Q2 Q3 Q4) (by kernel_rfl) (by kernel_rfl) HoldG_stable (fun Q' => ?_) (fun vs w' hb' hG => ?_)
  · refine ⟨?_, ?_, ?_, ?_, ?_, ?_, ?_, ?_, ?_, ?_, ?_, ?_, ?_, ?_, ?_, ?_, ?_, ?_, ?_, ?_, ?_, ?_, ?_, ?_, ?_, ?_, ?_, ?_, ?_, ?_, ?_, ?_, ?_, ?_, ?_, ?_, ?_, ?_, ?_, ?_, ?_, ?_, trivial⟩
    all_goals intro a wa h
    · exact stepMove rfl rfl (h.old 0 (by kernel_rfl) rfl) rfl
    · exact stepMove rfl rfl (h.old 3 (by kernel_rfl) rfl) rfl
    · obtain ⟨x, hx, gx, tx⟩ := h.got 0 15 (by kernel_rfl) rfl
      subst gx
      obtain ⟨y, hy, gy, ty⟩ := h.got 1 16 (by kernel_rfl) rfl
      subst gy
      exact stepRun rfl _ _ (runIdx ti25 rfl hx hy (by omega) (by omega)) rfl (Below.refl _ _)
    · obtain ⟨x, hx, gx, tx⟩ := h.got 2 17 (by kernel_rfl) rfl
      subst gx
      exact stepRun rfl _ _ (runLoad rfl hx rfl (cell_keep h.below g0)) rfl (Below.refl _ _)
    · exact stepMove rfl rfl (h.old 4 (by kernel_rfl) rfl) rfl
    · obtain ⟨x, hx, gx, tx⟩ := h.got 4 19 (by kernel_rfl) rfl
      subst gx
      exact stepRun rfl _ _ (runIdx ti25 rfl hx rfl (by omega) (by omega)) rfl (Below.refl _ _)
    · obtain ⟨x, hx, gx, tx⟩ := h.got 5 20 (by kernel_rfl) rfl
      subst gx
      exact stepRun rfl _ _ (runLoad rfl hx rfl (cell_keep h.below f0)) rfl (Below.refl _ _)
    · obtain ⟨x, hx, gx, tx⟩ := h.got 3 18 (by kernel_rfl) rfl
      subst gx
      obtain ⟨y, hy, gy, ty⟩ := h.got 6 21 (by kernel_rfl) rfl
      subst gy
      exact stepRun rfl _ _ (runEql rfl hx hy E0.out) rfl (Below.refl _ _)
    · obtain ⟨x, hx, gx, tx⟩ := h.got 7 22 (by kernel_rfl) rfl
      subst gx
      exact stepMove rfl rfl hx (by rw [Z1.out]; rfl)
    · obtain ⟨u, hu, gu, tu⟩ := h.got 8 23 (by kernel_rfl) rfl
      subst gu
      refine Agg.stepG rfl rfl tu (fun e => ?_) (fun e => ?_)
      · subst e
        exact ⟨_, _, runMove rfl (h.old 0 (by kernel_rfl) rfl), rfl, Below.refl _ _⟩
      · have e2 := Bool.eq_false_iff.2 e; subst e2; rfl
    · obtain ⟨u, hu, gu, tu⟩ := h.got 8 23 (by kernel_rfl) rfl
      subst gu
      refine Agg.stepG rfl rfl tu (fun e => ?_) (fun e => ?_)
      · subst e
        exact ⟨_, _, runMove rfl (h.old 3 (by kernel_rfl) rfl), rfl, Below.refl _ _⟩
      · have e2 := Bool.eq_false_iff.2 e; subst e2; rfl
    · obtain ⟨u, hu, gu, tu⟩ := h.got 8 23 (by kernel_rfl) rfl
      subst gu
      obtain ⟨x, hx, gx, tx⟩ := h.got 10 25 (by kernel_rfl) rfl
      subst gx
      refine Agg.stepG rfl rfl tu (fun e => ?_) (fun e => ?_)
      · subst e
        exact ⟨_, _, runAdd rfl hx rfl (by omega) (by omega), rfl, Below.refl _ _⟩
      · have e2 := Bool.eq_false_iff.2 e; subst e2; rfl
    · obtain ⟨u, hu, gu, tu⟩ := h.got 8 23 (by kernel_rfl) rfl
      subst gu
      obtain ⟨x, hx, gx, tx⟩ := h.got 9 24 (by kernel_rfl) rfl
      subst gx
      obtain ⟨y, hy, gy, ty⟩ := h.got 11 26 (by kernel_rfl) rfl
      subst gy
      refine Agg.stepG rfl rfl tu (fun e => ?_) (fun e => ?_)
      · subst e
        exact ⟨_, _, runIdx ti25 rfl hx hy (by omega) (by omega), rfl, Below.refl _ _⟩
      · have e2 := Bool.eq_false_iff.2 e; subst e2; rfl
    · obtain ⟨u, hu, gu, tu⟩ := h.got 8 23 (by kernel_rfl) rfl
      subst gu
      obtain ⟨x, hx, gx, tx⟩ := h.got 12 27 (by kernel_rfl) rfl
      subst gx
      refine Agg.stepG rfl rfl tu (fun e => ?_) (fun e => ?_)
      · subst e
        exact ⟨_, _, runLoad rfl hx rfl (cell_keep h.below g1), rfl, Below.refl _ _⟩
      · have e2 := Bool.eq_false_iff.2 e; subst e2; rfl
    · obtain ⟨u, hu, gu, tu⟩ := h.got 8 23 (by kernel_rfl) rfl
      subst gu
      refine Agg.stepG rfl rfl tu (fun e => ?_) (fun e => ?_)
      · subst e
        exact ⟨_, _, runMove rfl (h.old 4 (by kernel_rfl) rfl), rfl, Below.refl _ _⟩
      · have e2 := Bool.eq_false_iff.2 e; subst e2; rfl
    · obtain ⟨u, hu, gu, tu⟩ := h.got 8 23 (by kernel_rfl) rfl
      subst gu
      obtain ⟨x, hx, gx, tx⟩ := h.got 14 29 (by kernel_rfl) rfl
      subst gx
      refine Agg.stepG rfl rfl tu (fun e => ?_) (fun e => ?_)
      · subst e
        exact ⟨_, _, runIdx ti25 rfl hx rfl (by omega) (by omega), rfl, Below.refl _ _⟩
      · have e2 := Bool.eq_false_iff.2 e; subst e2; rfl
    · obtain ⟨u, hu, gu, tu⟩ := h.got 8 23 (by kernel_rfl) rfl
      subst gu
      obtain ⟨x, hx, gx, tx⟩ := h.got 15 30 (by kernel_rfl) rfl
      subst gx
      refine Agg.stepG rfl rfl tu (fun e => ?_) (fun e => ?_)
      · subst e
        exact ⟨_, _, runLoad rfl hx rfl (cell_keep h.below f1), rfl, Below.refl _ _⟩
      · have e2 := Bool.eq_false_iff.2 e; subst e2; rfl
    · obtain ⟨u, hu, gu, tu⟩ := h.got 8 23 (by kernel_rfl) rfl
      subst gu
      obtain ⟨x, hx, gx, tx⟩ := h.got 13 28 (by kernel_rfl) rfl
      subst gx
      obtain ⟨y, hy, gy, ty⟩ := h.got 16 31 (by kernel_rfl) rfl
      subst gy
      refine Agg.stepG rfl rfl tu (fun e => ?_) (fun e => ?_)
      · subst e
        exact ⟨_, _, runEql rfl hx hy E1.out, rfl, Below.refl _ _⟩
      · have e2 := Bool.eq_false_iff.2 e; subst e2; rfl
    · obtain ⟨u, hu, gu, tu⟩ := h.got 8 23 (by kernel_rfl) rfl
      subst gu
      obtain ⟨x, hx, gx, tx⟩ := h.got 17 32 (by kernel_rfl) rfl
      subst gx
      exact stepPick rfl rfl hu (by rw [hx, Z2.out]; cases Q1 <;> rfl) rfl
    · obtain ⟨x, hx, gx, tx⟩ := h.got 18 33 (by kernel_rfl) rfl
      subst gx
      exact stepMove rfl rfl hx rfl
    · obtain ⟨u, hu, gu, tu⟩ := h.got 19 34 (by kernel_rfl) rfl
      subst gu
      refine Agg.stepG rfl rfl tu (fun e => ?_) (fun e => ?_)
      · subst e
        exact ⟨_, _, runMove rfl (h.old 0 (by kernel_rfl) rfl), rfl, Below.refl _ _⟩
      · have e2 := Bool.eq_false_iff.2 e; subst e2; rfl
    · obtain ⟨u, hu, gu, tu⟩ := h.got 19 34 (by kernel_rfl) rfl
      subst gu
      refine Agg.stepG rfl rfl tu (fun e => ?_) (fun e => ?_)
      · subst e
        exact ⟨_, _, runMove rfl (h.old 3 (by kernel_rfl) rfl), rfl, Below.refl _ _⟩
      · have e2 := Bool.eq_false_iff.2 e; subst e2; rfl
    · obtain ⟨u, hu, gu, tu⟩ := h.got 19 34 (by kernel_rfl) rfl
      subst gu
      obtain ⟨x, hx, gx, tx⟩ := h.got 21 36 (by kernel_rfl) rfl
      subst gx
      refine Agg.stepG rfl rfl tu (fun e => ?_) (fun e => ?_)
      · subst e
        exact ⟨_, _, runAdd rfl hx rfl (by omega) (by omega), rfl, Below.refl _ _⟩
      · have e2 := Bool.eq_false_iff.2 e; subst e2; rfl
    · obtain ⟨u, hu, gu, tu⟩ := h.got 19 34 (by kernel_rfl) rfl
      subst gu
      obtain ⟨x, hx, gx, tx⟩ := h.got 20 35 (by kernel_rfl) rfl
      subst gx
      obtain ⟨y, hy, gy, ty⟩ := h.got 22 37 (by kernel_rfl) rfl
      subst gy
      refine Agg.stepG rfl rfl tu (fun e => ?_) (fun e => ?_)
      · subst e
        exact ⟨_, _, runIdx ti25 rfl hx hy (by omega) (by omega), rfl, Below.refl _ _⟩
      · have e2 := Bool.eq_false_iff.2 e; subst e2; rfl
    · obtain ⟨u, hu, gu, tu⟩ := h.got 19 34 (by kernel_rfl) rfl
      subst gu
      obtain ⟨x, hx, gx, tx⟩ := h.got 23 38 (by kernel_rfl) rfl
      subst gx
      refine Agg.stepG rfl rfl tu (fun e => ?_) (fun e => ?_)
      · subst e
        exact ⟨_, _, runLoad rfl hx rfl (cell_keep h.below g2), rfl, Below.refl _ _⟩
      · have e2 := Bool.eq_false_iff.2 e; subst e2; rfl
    · obtain ⟨u, hu, gu, tu⟩ := h.got 19 34 (by kernel_rfl) rfl
      subst gu
      refine Agg.stepG rfl rfl tu (fun e => ?_) (fun e => ?_)
      · subst e
        exact ⟨_, _, runMove rfl (h.old 4 (by kernel_rfl) rfl), rfl, Below.refl _ _⟩
      · have e2 := Bool.eq_false_iff.2 e; subst e2; rfl
    · obtain ⟨u, hu, gu, tu⟩ := h.got 19 34 (by kernel_rfl) rfl
      subst gu
      obtain ⟨x, hx, gx, tx⟩ := h.got 25 40 (by kernel_rfl) rfl
      subst gx
      refine Agg.stepG rfl rfl tu (fun e => ?_) (fun e => ?_)
      · subst e
        exact ⟨_, _, runIdx ti25 rfl hx rfl (by omega) (by omega), rfl, Below.refl _ _⟩
      · have e2 := Bool.eq_false_iff.2 e; subst e2; rfl
    · obtain ⟨u, hu, gu, tu⟩ := h.got 19 34 (by kernel_rfl) rfl
      subst gu
      obtain ⟨x, hx, gx, tx⟩ := h.got 26 41 (by kernel_rfl) rfl
      subst gx
      refine Agg.stepG rfl rfl tu (fun e => ?_) (fun e => ?_)
      · subst e
        exact ⟨_, _, runLoad rfl hx rfl (cell_keep h.below f2), rfl, Below.refl _ _⟩
      · have e2 := Bool.eq_false_iff.2 e; subst e2; rfl
    · obtain ⟨u, hu, gu, tu⟩ := h.got 19 34 (by kernel_rfl) rfl
      subst gu
      obtain ⟨x, hx, gx, tx⟩ := h.got 24 39 (by kernel_rfl) rfl
      subst gx
      obtain ⟨y, hy, gy, ty⟩ := h.got 27 42 (by kernel_rfl) rfl
      subst gy
      refine Agg.stepG rfl rfl tu (fun e => ?_) (fun e => ?_)
      · subst e
        exact ⟨_, _, runEql rfl hx hy E2.out, rfl, Below.refl _ _⟩
      · have e2 := Bool.eq_false_iff.2 e; subst e2; rfl
    · obtain ⟨u, hu, gu, tu⟩ := h.got 19 34 (by kernel_rfl) rfl
      subst gu
      obtain ⟨x, hx, gx, tx⟩ := h.got 28 43 (by kernel_rfl) rfl
      subst gx
      exact stepPick rfl rfl hu (by rw [hx, Z3.out]; cases Q2 <;> rfl) rfl
    · obtain ⟨x, hx, gx, tx⟩ := h.got 29 44 (by kernel_rfl) rfl
      subst gx
      exact stepMove rfl rfl hx rfl
    · obtain ⟨u, hu, gu, tu⟩ := h.got 30 45 (by kernel_rfl) rfl
      subst gu
      refine Agg.stepG rfl rfl tu (fun e => ?_) (fun e => ?_)
      · subst e
        exact ⟨_, _, runMove rfl (h.old 0 (by kernel_rfl) rfl), rfl, Below.refl _ _⟩
      · have e2 := Bool.eq_false_iff.2 e; subst e2; rfl
    · obtain ⟨u, hu, gu, tu⟩ := h.got 30 45 (by kernel_rfl) rfl
      subst gu
      refine Agg.stepG rfl rfl tu (fun e => ?_) (fun e => ?_)
      · subst e
        exact ⟨_, _, runMove rfl (h.old 3 (by kernel_rfl) rfl), rfl, Below.refl _ _⟩
      · have e2 := Bool.eq_false_iff.2 e; subst e2; rfl
    · obtain ⟨u, hu, gu, tu⟩ := h.got 30 45 (by kernel_rfl) rfl
      subst gu
      obtain ⟨x, hx, gx, tx⟩ := h.got 32 47 (by kernel_rfl) rfl
      subst gx
      refine Agg.stepG rfl rfl tu (fun e => ?_) (fun e => ?_)
      · subst e
        exact ⟨_, _, runAdd rfl hx rfl (by omega) (by omega), rfl, Below.refl _ _⟩
      · have e2 := Bool.eq_false_iff.2 e; subst e2; rfl
    · obtain ⟨u, hu, gu, tu⟩ := h.got 30 45 (by kernel_rfl) rfl
      subst gu
      obtain ⟨x, hx, gx, tx⟩ := h.got 31 46 (by kernel_rfl) rfl
      subst gx
      obtain ⟨y, hy, gy, ty⟩ := h.got 33 48 (by kernel_rfl) rfl
      subst gy
      refine Agg.stepG rfl rfl tu (fun e => ?_) (fun e => ?_)
      · subst e
        exact ⟨_, _, runIdx ti25 rfl hx hy (by omega) (by omega), rfl, Below.refl _ _⟩
      · have e2 := Bool.eq_false_iff.2 e; subst e2; rfl
    · obtain ⟨u, hu, gu, tu⟩ := h.got 30 45 (by kernel_rfl) rfl
      subst gu
      obtain ⟨x, hx, gx, tx⟩ := h.got 34 49 (by kernel_rfl) rfl
      subst gx
      refine Agg.stepG rfl rfl tu (fun e => ?_) (fun e => ?_)
      · subst e
        exact ⟨_, _, runLoad rfl hx rfl (cell_keep h.below g3), rfl, Below.refl _ _⟩
      · have e2 := Bool.eq_false_iff.2 e; subst e2; rfl
    · obtain ⟨u, hu, gu, tu⟩ := h.got 30 45 (by kernel_rfl) rfl
      subst gu
      refine Agg.stepG rfl rfl tu (fun e => ?_) (fun e => ?_)
      · subst e
        exact ⟨_, _, runMove rfl (h.old 4 (by kernel_rfl) rfl), rfl, Below.refl _ _⟩
      · have e2 := Bool.eq_false_iff.2 e; subst e2; rfl
    · obtain ⟨u, hu, gu, tu⟩ := h.got 30 45 (by kernel_rfl) rfl
      subst gu
      obtain ⟨x, hx, gx, tx⟩ := h.got 36 51 (by kernel_rfl) rfl
      subst gx
      refine Agg.stepG rfl rfl tu (fun e => ?_) (fun e => ?_)
      · subst e
        exact ⟨_, _, runIdx ti25 rfl hx rfl (by omega) (by omega), rfl, Below.refl _ _⟩
      · have e2 := Bool.eq_false_iff.2 e; subst e2; rfl
    · obtain ⟨u, hu, gu, tu⟩ := h.got 30 45 (by kernel_rfl) rfl
      subst gu
      obtain ⟨x, hx, gx, tx⟩ := h.got 37 52 (by kernel_rfl) rfl
      subst gx
      refine Agg.stepG rfl rfl tu (fun e => ?_) (fun e => ?_)
      · subst e
        exact ⟨_, _, runLoad rfl hx rfl (cell_keep h.below f3), rfl, Below.refl _ _⟩
      · have e2 := Bool.eq_false_iff.2 e; subst e2; rfl
    · obtain ⟨u, hu, gu, tu⟩ := h.got 30 45 (by kernel_rfl) rfl
      subst gu
      obtain ⟨x, hx, gx, tx⟩ := h.got 35 50 (by kernel_rfl) rfl
      subst gx
      obtain ⟨y, hy, gy, ty⟩ := h.got 38 53 (by kernel_rfl) rfl
      subst gy
      refine Agg.stepG rfl rfl tu (fun e => ?_) (fun e => ?_)
      · subst e
        exact ⟨_, _, runEql rfl hx hy E3.out, rfl, Below.refl _ _⟩
      · have e2 := Bool.eq_false_iff.2 e; subst e2; rfl
    · obtain ⟨u, hu, gu, tu⟩ := h.got 30 45 (by kernel_rfl) rfl
      subst gu
      obtain ⟨x, hx, gx, tx⟩ := h.got 39 54 (by kernel_rfl) rfl
      subst gx
      exact stepPick rfl rfl hu (by rw [hx, Z4.out]; cases Q3 <;> rfl) rfl
    · obtain ⟨x, hx, gx, tx⟩ := h.got 40 55 (by kernel_rfl) rfl
      subst gx
      exact stepAssign rfl rfl hx rfl
  · have hv41 : vs 41 = .bool Q4 := hG 41 _ rfl
    simp only [Agg.setAll, Nat.reduceAdd, List.set_cons_succ, List.set_cons_zero, hv41]
    have HBF := Lib.hid (HB.out.trans (hb'.mono HB.out.size))
    clear hG hb' hv41
    go_wp2_with fail
    go_ret
    refine ⟨?_, HBF.out⟩
    rw [← V0.out, ← V1.out, ← V2.out, ← V3.out, Z4.out, Z3.out, Z2.out, Z1.out, Bool.and_assoc, Bool.and_assoc]
    rfl

theorem rholds_short (l : List UInt8) (v : Value) (w : World) (hv : Bytes w v l) (hl : l.length < 4) :
    Calls Try.prog 73 #[v] w fun e w' => e = .returned (.bool false) ∧ w = w' := by
  have hs : SlR w v 1 l.length (bv l) := hv
  obtain ⟨x, cap, rfl, hc1, hc2⟩ := hs.shape
  clear hv hs hc2 hc1
  generalize l.length = n at *
  have hn : (n : Int) - 4 < 0 := by omega
  go_enter Try.func73, Try.ntmps73
  go_wp2_with fail
  go_ret
  exact ⟨rfl, rfl⟩

theorem split_four (l : List UInt8) (h : 4 ≤ l.length) : ∃ p c0 c1 c2 c3, l = p ++ [c0, c1, c2, c3] := by
  have e := List.take_append_drop (l.length - 4) l
  have hl : (l.drop (l.length - 4)).length = 4 := by simp; omega
  generalize l.drop (l.length - 4) = q at e hl
  match q, hl with
  | [c0, c1, c2, c3], _ => exact ⟨_, c0, c1, c2, c3, e.symm⟩

/-- the reference's Holds says what the program's says -/
theorem rholds_any (l : List UInt8) (v : Value) (w : World) (hv : Bytes w v l) (b : Bool) (hb : b = (decide (4 ≤ l.length) && (Crc.sum l == 0#32))) :
    Calls Try.prog 73 #[v] w fun e w' => e = .returned (.bool b) ∧ Below w.heap.size w w' := by
  by_cases h4 : 4 ≤ l.length
  · obtain ⟨p, c0, c1, c2, c3, rfl⟩ := split_four l h4
    obtain ⟨d0, d1, d2, d3, hd⟩ := four_bytes (Crc.sum p)
    have e : b = (c0 == d0 && (c1 == d1 && (c2 == d2 && c3 == d3))) := by
      rw [hb, Bool.eq_iff_iff]
      simp only [h4, decide_true, Bool.true_and, beq_iff_eq, Crc.holds_iff, hd, Bool.and_eq_true, List.cons.injEq, and_true]
      constructor <;> rintro ⟨rfl, rfl, rfl, rfl⟩ <;> simp
    rw [e]
    exact rholds_four p c0 c1 c2 c3 v w hv d0 d1 d2 d3 hd
  · have : b = false := by rw [hb]; simp [h4]
    subst this
    refine (rholds_short l v w hv (by omega)).mono ?_
    rintro e w' ⟨rfl, rfl⟩
    exact ⟨rfl, Below.refl _ _⟩

end Go.Proofs.Ytjnnnnolikbjcaa
