/-
  ROOTS: a block is stored into a device's pages; the greatest stamp of one block.
-/
import Derived.Test.YtjnnnnolikbjcaaRFdDw3
import Derived.Test.YtjnnnnolikbjcaaRtM
section
namespace Go.Proofs.Ytjnnnnolikbjcaa
open Go.ChangeShapes Go.WideShapes Go.ChangeAt Go.RowKit Agg Pg Dv
attribute [local go_sem] Oper.semAt_some

theorem lit_blk (b : List Sec) (hb : BOk b) (w : World) : (Instr.buildSlice 22 1 #[(0, .agg (blkC b).toArray)]).run Try.prog w = .ok (.slice (some ⟨w.heap.size, 0, none⟩) 1 1) (w.alloc (.cells (blkC b).toArray 38)) := by
  have h := run_buildRows tiBl [blkC b] (by simpa using bok_cells hb) (by simp) (by simp) w
  simpa using h
variable {P : Program} {Q : Exit → Act → World → Prop} {o : Oper} {w : World} in
/-- a block is stored into a row of one's own -/
theorem gStorePg {ops : Array Oper} {rest : List Oper} {a : Act} {t : TypeId} {x y : Operand} {base : Nat} {e : TypeId} {g n cap : Nat} {Ps : List (List Sec)} (k : Nat) (b : List Sec) (H : w.ownsRow base e 132 (.slice (some ⟨g, 0, none⟩) n cap) n (Ps.flatMap blkC)) (hP : ∀ b ∈ Ps, BOk b) (hn : Ps.length = n) (hk : k < n) (hb : BOk b)
    (hg : o.guard = none) (hd : o.dst = none) (ho : o.op = .store t x y) (hx : a.eval x = .pointer (some ⟨g, k * 132, none⟩)) (hy : a.eval y = .agg (blkC b).toArray)
    (ht : aggT P t 132 = true)
    (h : ∀ w', w'.ownsRow base e 132 (.slice (some ⟨g, 0, none⟩) n cap) n ((Ps.set k b).flatMap blkC) → w.grownBy w' (some g) → wpList P ops Q rest a w') : wpList P ops Q (o :: rest) a w := by
  obtain ⟨r, hbk, h2, h3, h4, h5⟩ := ownBlk H
  have hxl := H.1
  have hfit : k * 132 + 132 ≤ (Ps.flatMap blkC ++ r).length := by
    rw [List.length_append, hxl]
    have : (k + 1) * 132 ≤ n * 132 := Nat.mul_le_mul_right _ hk
    omega
  refine gStoreMid 132 (k * 132) (blkC b) hbk hg hd ho hx hy ht (bok_cells hb) hfit (blkC_one _) (fun w' hb' hg' => h w' ?_ hg')
  rw [pgs_put Ps hP k (by omega) b hb r] at hb'
  have hl2 : ((Ps.set k b).flatMap blkC).length = n * 132 := by
    rw [flat_len blkC 132 _ (fun b' hb' => bok_cells (set_bok hP k hb b' hb')), List.length_set, hn]
  exact blkOwn hb' h2 h3 h4 (by rw [List.length_append, hl2, ← hxl, ← List.length_append]; exact h5) hl2
theorem great_one (ub : List Sec) (hb : BOk ub) (g b0 : Nat) (hg : grB [ub] = g) (u : Value) (W : World) (hu : NewSl b0 38 1 (blkC ub) u W) : Calls Try.prog 11 #[u] W fun e w' => e = .returned (.int .u64 (g : Int)) ∧ Below W.heap.size W w' := by
  rw [← hg]
  have h := NewSl.sl (sz := 132) hu (by rw [bok_cells hb]) (by decide)
  refine great_any [ub] (fun b h => by rw [List.mem_singleton.1 h]; exact hb) u W ?_
  show SlR W u 132 1 ([ub].flatMap blkC)
  rw [List.flatMap_cons, List.flatMap_nil, List.append_nil]
  exact h
theorem old_dev {b : Nat} {w : World} {Ps : List (List Sec)} {c cc : Nat} {x cx : Option Addr} (hl : Ps.length = 256) (hp : w.ownsRow b 38 132 (.slice x 256 c) 256 (Ps.flatMap blkC)) (hc : w.ownsRow b 88 133 (.slice cx 0 cc) 0 []) : DevO b w (.agg #[.slice x 256 c, .slice cx 0 cc, .int .i64 (-1), .bool false]) (oldD Ps) := by
  refine ⟨_, _, rfl, ?_, hc⟩
  show w.ownsRow b _ 132 _ Ps.length _
  rw [hl]
  exact hp
theorem newD_sec (n : Nat) : SecLe 0 (newD n).pages := by
  intro b hb s hs
  rw [List.eq_of_mem_replicate hb] at hs
  unfold zeroB at hs
  rw [List.eq_of_mem_replicate hs]; exact Nat.zero_le _
theorem set_sec {X : Nat} {Ps : List (List Sec)} (h : SecLe X Ps) {k : Nat} {b : List Sec} (hb : grB [b] ≤ X) : SecLe X (Ps.set k b) := by
  have hg : SecLe X [b] := grB_le.1 hb
  intro x hx
  rcases List.mem_or_eq_of_mem_set hx with h1 | rfl
  · exact h x h1
  · exact hg x (by simp)
theorem dev_pages {b : Nat} {w : World} {px : Option Addr} {pc : Nat} {u z q : Value} {d : Dev} (h : DevO b w (.agg #[.slice px 256 pc, u, z, q]) d) (hl : d.pages.length = 256) : Blks w (.slice px 256 pc) d.pages := by
  obtain ⟨p, c, hv, hp, _⟩ := h
  simp only [Value.agg.injEq, Array.mk.injEq, List.cons.injEq, and_true] at hv
  obtain ⟨rfl, _⟩ := hv
  exact ownSl hp
/-- a device's cells, where all has settled -/
theorem calm_shape {b : Nat} {w : World} {v : Value} {d : Dev} (h : DevO b w v d) (hc : Calm d) : ∃ px pc cx cc, v = .agg #[.slice px 256 pc, .slice cx 0 cc, .int .i64 (-1), .bool false] := by
  obtain ⟨px, pc, cx, cc, rfl⟩ := h.read.shape
  rw [hc.len, hc.cache, hc.pow.2.1, hc.pow.2.2]
  exact ⟨px, pc, cx, cc, rfl⟩
theorem put_calm {d : Dev} (h : Calm d) (r : Rt) : putRt d r = if rightB r = false then (330, dev0) else (0, putDev d r) := by
  by_cases hq : rightB r = false
  · rw [if_pos hq]
    unfold putRt
    rw [if_neg (by rw [pow_why h.pow]; decide), if_neg (by rw [pow_why h.pow]; decide), if_pos (.inl hq)]
  · rw [if_neg hq]
    have hr := (right_iff r).1 (by simpa using hq)
    exact (putRt_ok h.pow hr (by rw [h.len]; exact right_of256 hr)).1
theorem putRt_ok_good {d : Dev} (h : Calm d) {r : Rt} (hr : RightR r) : DGood (putDev d r) := putDev_good h.good h.pow hr (by rw [h.len]; exact right_of256 hr)
theorem u64_plus {G : Nat} (h : G < 18446744073709551615) : IntKind.u64.wrap ((G : Int) + 1) = ((G + 1 : Nat) : Int) := by
  simp [IntKind.wrap, IntKind.bits, IntKind.signed]; omega
theorem rtO_row {b : Nat} {w : World} {u0 u1 u2 u3 : Value} {r : Rt} (h : RtO b w (.agg #[u0, u1, u2, u3]) r) : w.ownsRow b 3 1 u2 r.pages.length (iC r.pages) := by
  obtain ⟨sl, hv, hp⟩ := h
  unfold rtV at hv
  simp only [Value.agg.injEq, Array.mk.injEq, List.cons.injEq, and_true] at hv
  obtain ⟨_, _, rfl, _⟩ := hv
  exact hp
theorem lit_int (m : Int) (w : World) : (Instr.buildSlice 24 1 #[(0, .int .i64 m)]).run Try.prog w = .ok (.slice (some ⟨w.heap.size, 0, none⟩) 1 1) (w.alloc (.cells #[.int .i64 m] 3)) := by kernel_rfl
theorem int_one {b0 : Nat} {m : Int} {u : Value} {W : World} (hu : NewSl b0 3 1 [.int .i64 m] u W) : Ints W u [m] := NewSl.sl (sz := 1) hu rfl (show (1 : Nat) ≤ maxLen by decide)
theorem run_and64 {P : Program} (t : TypeId) (m n r : Int) (h : bits .and .i64 m n = r) (w : World) : (binOp .and t (.int .i64 m) (.int .i64 n)).run P w = .ok (.int .i64 r) w := by
  subst h; rfl
theorem and_15 (m : Int) : bits .and .i64 m 15 = m % 16 := by
  show IntKind.i64.wrap ((BitVec.ofInt 64 m &&& BitVec.ofInt 64 15).toNat : Int) = _
  have h1 : (BitVec.ofInt 64 15).toNat = 2 ^ 4 - 1 := by decide
  rw [BitVec.toNat_and, BitVec.toNat_ofInt, h1, Nat.and_two_pow_sub_one_eq_mod, IntKind.wrap_i64]
  omega
theorem fuse_three (z0 : Int) : ∃ z : Nat, z ≤ 2 ∧ IntKind.u64.wrap z0 = z0 % 18446744073709551616 ∧ (z0 % 18446744073709551616).tmod 3 = (z : Int) ∧ IntKind.i64.wrap (z : Int) = (z : Int) := by
  have h0 := Int.emod_nonneg (z0 % 18446744073709551616) (show (3 : Int) ≠ 0 by decide)
  have h1 := Int.emod_lt_of_pos (z0 % 18446744073709551616) (show (0 : Int) < 3 by decide)
  have h2 : IntKind.u64.wrap z0 = z0 % 18446744073709551616 := by simp [IntKind.wrap, IntKind.bits, IntKind.signed]
  obtain ⟨r, hr⟩ : ∃ r, (z0 % 18446744073709551616) % 3 = r := ⟨_, rfl⟩
  rw [hr] at h0 h1
  refine ⟨r.toNat, by omega, h2, ?_, ?_⟩
  · rw [Int.tmod_eq_emod_of_nonneg (by omega), hr]; omega
  · rw [IntKind.wrap_i64]; omega
end Go.Proofs.Ytjnnnnolikbjcaa
end
section
/-
  ROOTS: the document's Same, Has, Right.
-/
namespace Go.Proofs.Ytjnnnnolikbjcaa
open Go.ChangeShapes Go.WideShapes Go.ChangeAt Go.RowKit Agg Pg Dv
attribute [local go_sem] Oper.semAt_some

set_option maxHeartbeats 4000000 in
set_option maxRecDepth 100000 in
theorem samePg_any (P Q : List Int) (u v : Value) (w : World) (hu : Ints w u P) (hv : Ints w v Q) (r : Bool) (hr : decide (P = Q) = r) :
    Calls Try.prog 51 #[u, v] w fun e w' => e = .returned (.bool r) ∧ Below w.heap.size w w' := by
  obtain ⟨x, xc, rfl, hx1, hx2⟩ := ints_shape hu
  obtain ⟨y, yc, rfl, hy1, hy2⟩ := ints_shape hv
  unfold maxLen at hx2 hy2
  have HU := Lib.hid hu
  have HV := Lib.hid hv
  have HR := Lib.hid hr
  clear hu hv hr
  have HB := Lib.hid (Below.refl w.heap.size w)
  go_enter Try.func51, Try.ntmps51
  clear HB
  by_cases hlen : P.length = Q.length
  · have HLE := Lib.hid hlen
    have hne : ((P.length : Int) != (Q.length : Int)) = false := by rw [hlen]; simp
    go_wp2_with fail
    clear hne
    go_loopw [5] (fun i wr => ∃ k : Nat, k ≤ P.length ∧ i = .int .i64 k ∧ Below w.heap.size w wr ∧ P.take k = Q.take k) (fun i _ => P.length - (intOf i).toNat)
    case atStart => exact ⟨0, by omega, rfl, Below.refl _ _, rfl⟩
    case round =>
      obtain ⟨k, hk, rfl, hb, htk⟩ := hrel
      have HB := Lib.hid hb
      have HTK := Lib.hid htk
      have hu2 := SlR.keep HU.out hb
      have hv2 := SlR.keep HV.out hb
      clear hb htk
      obtain ⟨wA, hwA⟩ : ∃ x, x = wr := ⟨_, rfl⟩
      subst hwA
      by_cases hlt : k < P.length
      · have hltq : k < Q.length := by have := HLE.out; omega
        obtain ⟨b, o, cap', hve, _⟩ := SlR.pos hu2 (by decide) (by omega)
        injection hve with q1 q2 q3
        subst q1
        clear q2 q3
        obtain ⟨b2, o2, cap2, hve, _⟩ := SlR.pos hv2 (by decide) (by omega)
        injection hve with q1 q2 q3
        subst q1
        clear q2 q3
        have HC1 := Lib.hid (ints_at hu2 hlt)
        have HC2 := Lib.hid (ints_at hv2 hltq)
        obtain ⟨A, hA⟩ : ∃ A, P[k] = A := ⟨_, rfl⟩
        obtain ⟨B, hB⟩ : ∃ B, Q[k] = B := ⟨_, rfl⟩
        have hst1 := List.take_succ_eq_append_getElem hlt
        have hst2 := List.take_succ_eq_append_getElem hltq
        rw [hA] at HC1 hst1
        rw [hB] at HC2 hst2
        obtain ⟨q, hq⟩ : ∃ q, (A != B) = q := ⟨_, rfl⟩
        have HST : Hid (q = false → P.take (k + 1) = Q.take (k + 1)) := Lib.hid (fun h => by
          rw [hst1, hst2, HTK.out]
          rw [h] at hq
          simp at hq
          rw [hq])
        have HNE : Hid (q = true → P ≠ Q) := Lib.hid (fun h e => by
          rw [h] at hq
          subst e
          simp at hq
          exact hq (hA.symm.trans hB))
        have HQ := Lib.hid hq
        clear hA hB hst1 hst2 hq hu2 hv2
        go_upto_region 6 with (fail)
        refine Agg.chainR 9 (by kernel_rfl) (by kernel_rfl) ?_
        simp only [List.take_succ_cons, List.take_zero, List.drop_succ_cons, List.drop_zero]
        refine Agg.chMove rfl rfl rfl rfl ?_
        refine Agg.chMove rfl rfl rfl rfl ?_
        refine Agg.chIA tiInt (by omega) (by omega) rfl rfl rfl rfl rfl ?_
        refine Agg.chLoad rfl rfl rfl rfl (by decide +kernel) (by simp only [Int.toNat_natCast, Nat.mul_one]; exact HC1.out) ?_
        refine Agg.chMove rfl rfl rfl rfl ?_
        refine Agg.chMove rfl rfl rfl rfl ?_
        refine Agg.chIA tiInt (by omega) (by omega) rfl rfl rfl rfl rfl ?_
        refine Agg.chLoad rfl rfl rfl rfl (by decide +kernel) (by simp only [Int.toNat_natCast, Nat.mul_one]; exact HC2.out) ?_
        refine Agg.chNe q HQ.out rfl rfl rfl rfl rfl ?_
        refine Agg.chEnd ?_
        intro vs w21 hb _
        refine Agg.wpNil ?_
        simp only [List.reverse, List.reverseAux, Agg.fill, List.set_cons_succ, List.set_cons_zero]
        replace HB := Lib.hid (HB.out.trans (hb.mono HB.out.size))
        clear hb
        cases q
        · have hs := HST.out rfl
          go_wp2_with fail
          exact ⟨⟨k + 1, by omega, by go_num, HB.out, hs⟩, by simp [intOf]; omega⟩
        · obtain rfl : r = false := by rw [← HR.out]; simpa using HNE.out rfl
          go_wp2_with fail
          go_ret
          exact ⟨rfl, HB.out⟩
      · obtain rfl : k = P.length := by omega
        have he : P = Q := by
          have h := HTK.out
          rw [List.take_length, HLE.out, List.take_length] at h
          exact h
        obtain rfl : r = true := by rw [← HR.out]; simpa using he
        clear he hu2 hv2
        go_wp2_with fail
        go_ret
        exact ⟨rfl, HB.out⟩
  · obtain rfl : r = false := by rw [← HR.out]; simpa using (fun e => hlen (by rw [e]))
    have hne : ((P.length : Int) != (Q.length : Int)) = true := by simp; omega
    clear hlen
    go_wp2_with fail
    go_ret
    exact ⟨rfl, Below.refl _ _⟩
set_option maxHeartbeats 4000000 in
set_option maxRecDepth 100000 in
theorem dSame_any (a b : Rt) (u v : Value) (w : World) (hu : RtR w u a) (hv : RtR w v b) (r : Bool) (hr : decide (a = b) = r) :
    Calls Try.prog 22 #[u, v] w fun e w' => e = .returned (.bool r) ∧ Below w.heap.size w w' := by
  obtain ⟨x, rfl, hx⟩ := hu.ex
  obtain ⟨y, rfl, hy⟩ := hv.ex
  have HE := Lib.hid (fun W h1 h2 => samePg_any a.pages b.pages x y W h1 h2 _ rfl)
  obtain ⟨q, hq⟩ : ∃ q, decide (a.pages = b.pages) = q := ⟨_, rfl⟩
  rw [hq] at HE
  have HQ := Lib.hid hq
  have HX := Lib.hid hx
  have HY := Lib.hid hy
  have HR : Hid (∀ c : Bool, (c = true ↔ (a.slot = b.slot ∧ a.stamp = b.stamp ∧ a.bytes = b.bytes ∧ a.pages = b.pages)) → c = r) := Lib.hid (fun c hc => by
    rw [← hr]
    rw [Bool.eq_iff_iff, hc, decide_eq_true_eq]
    exact rt_ext a b)
  clear hx hy hu hv hq hr
  obtain ⟨s1, st1, ps1, by1⟩ := a
  obtain ⟨s2, st2, ps2, by2⟩ := b
  unfold rtV
  dsimp only at HE HQ HX HY HR ⊢
  have HB := Lib.hid (Below.refl w.heap.size w)
  go_enter Try.func22, Try.ntmps22
  by_cases h1 : s1 = s2
  · subst h1
    have e1 : (s1 == s1) = true := by simp
    by_cases h2 : st1 = st2
    · subst h2
      have e2 : ((st1 : Int) == (st1 : Int)) = true := by simp
      by_cases h3 : by1 = by2
      · subst h3
        have e3 : (by1 == by1) = true := by simp
        go_wp2_with fail
        clear e1 e2 e3
        refine Agg.calls_at fun w1 hw1 => ?_
        have hb : Below w.heap.size w w1 := by rw [hw1.out]; repeat (first | exact Below.refl _ _ | refine Agg.bel_drew ?_ | refine Agg.bel_alloc ?_ _)
        replace HB := Lib.hid (HB.out.trans (hb.mono HB.out.size))
        replace HX := Lib.hid (HX.out.keep hb)
        replace HY := Lib.hid (HY.out.keep hb)
        clear hb
        clear hw1
        refine (HE.out w1 HX.out HY.out).mono ?_
        rintro e w2 ⟨rfl, hb⟩
        replace HB := Lib.hid (HB.out.trans (hb.mono HB.out.size))
        replace HX := Lib.hid (HX.out.keep hb)
        replace HY := Lib.hid (HY.out.keep hb)
        clear hb
        obtain rfl := HR.out q (by rw [← HQ.out]; simp)
        go_wp2_with fail
        go_ret
        exact ⟨rfl, HB.out⟩
      · have e3 : (by1 == by2) = false := by simpa using h3
        obtain rfl := HR.out false (by simp [h3])
        clear h3
        go_wp2_with fail
        go_ret
        exact ⟨rfl, bel_alloc (bel_alloc HB.out _) _⟩
    · have e2 : ((st1 : Int) == (st2 : Int)) = false := by simpa using (fun h => h2 (by omega))
      obtain rfl := HR.out false (by simp [h2])
      clear h2
      go_wp2_with fail
      go_ret
      exact ⟨rfl, bel_alloc (bel_alloc HB.out _) _⟩
  · have e1 : (s1 == s2) = false := by simpa using h1
    obtain rfl := HR.out false (by simp [h1])
    clear h1
    go_wp2_with fail
    go_ret
    exact ⟨rfl, bel_alloc (bel_alloc HB.out _) _⟩

set_option maxHeartbeats 4000000 in
set_option maxRecDepth 100000 in
theorem hasI_any (P : List Int) (z : Int) (u : Value) (w : World) (hu : Ints w u P) (r : Bool) (hr : P.contains z = r) :
    Calls Try.prog 55 #[u, .int .i64 z] w fun e w' => e = .returned (.bool r) ∧ Below w.heap.size w w' := by
  obtain ⟨x, xc, rfl, hx1, hx2⟩ := ints_shape hu
  unfold maxLen at hx2
  have HU := Lib.hid hu
  have HR := Lib.hid hr
  clear hu hr
  have HB := Lib.hid (Below.refl w.heap.size w)
  go_enter Try.func55, Try.ntmps55
  clear HB
  go_wp2_with fail
  go_loopw [5] (fun i wr => ∃ k : Nat, k ≤ P.length ∧ i = .int .i64 k ∧ (P.take k).contains z = false ∧ wr = w) (fun i _ => P.length - (intOf i).toNat)
  case atStart => exact ⟨0, by omega, rfl, rfl, rfl⟩
  case round =>
    obtain ⟨k, hk, rfl, htk, hww⟩ := hrel
    have HTK := Lib.hid htk
    clear htk
    subst hww
    have hu2 := HU.out
    by_cases hlt : k < P.length
    · obtain ⟨b, o, cap', hve, _⟩ := SlR.pos hu2 (by decide) (by omega)
      injection hve with q1 q2 q3
      subst q1
      clear q2 q3
      have hcell := ints_at hu2 hlt
      have hst := List.take_succ_eq_append_getElem hlt
      have hmem : P[k] ∈ P := List.getElem_mem hlt
      obtain ⟨A, hA⟩ : ∃ A, P[k] = A := ⟨_, rfl⟩
      rw [hA] at hcell hst hmem
      by_cases hz : A = z
      · subst hz
        obtain rfl : r = true := by rw [← HR.out]; simpa using hmem
        have hzz : (A == A) = true := by simp
        clear hst hmem hA hu2
        go_wp2_with fail
        go_ret
        exact ⟨rfl, Below.refl _ _⟩
      · have hzz : (A == z) = false := by simpa using hz
        have HS : Hid ((P.take (k + 1)).contains z = false) := Lib.hid (by
          have h := HTK.out
          rw [hst]
          simp only [List.contains_eq_mem, List.mem_append, List.mem_singleton, decide_eq_false_iff_not] at h ⊢
          exact fun h2 => h2.elim h (fun e => hz e.symm))
        clear hst hmem hA hu2 hz
        go_wp2_with fail
        exact ⟨⟨k + 1, by omega, by go_num, HS.out, (by first | rfl | trivial)⟩, by simp [intOf]; omega⟩
    · obtain rfl : k = P.length := by omega
      have h := HTK.out
      rw [List.take_length] at h
      obtain rfl : r = false := by rw [← HR.out]; exact h
      clear h hu2
      go_wp2_with fail
      go_ret
      exact ⟨rfl, Below.refl _ _⟩
end Go.Proofs.Ytjnnnnolikbjcaa
end
