/-
  ROOTS: a block is stored into a device's pages; the greatest stamp of one block.
-/
import Derived.Test.YtjnnnnolikbjcaaRFdDw3
import Derived.Test.YtjnnnnolikbjcaaRtM
import Derived.Test.YtjnnnnolikbjcaaRFdDw1
section
namespace Go.Proofs.Ytjnnnnolikbjcaa
open Go.ChangeShapes Go.WideShapes Go.ChangeAt Go.RowKit Agg Pg Dv
attribute [local go_sem] Oper.semAt_some

theorem lit_blk (b : List Sec) (hb : BOk b) (w : World) : (Instr.buildSlice 22 1 #[(0, .agg (blkC b).toArray)]).run Try.prog w = .ok (.slice (some ⟨w.heap.size, 0, none⟩) 1 1) (w.alloc (.cells (blkC b).toArray 38)) := by
  have h := run_buildRows tiBl [blkC b] (by simpa using bok_cells hb) (by simp) (by simp) w
  simpa using h
variable {P : Program} {Q : Exit → Act → World → Prop} {o : Oper} {w : World} in
/-- a block is stored into a row of one's own -/
theorem gStorePg {ops : Array Oper} {rest : List Oper} {a : Act} {t : TypeId} {x y : Operand} {base : Nat} {e : TypeId} {g n cap : Nat} {Ps : List (List Sec)} (k : Nat) (b : List Sec) (H : w.ownsRow base e 132 (.slice (some ⟨g, 0, none⟩) n cap) n (Ps.flatMap blkC)) (hP : ∀ b ∈ Ps, BOk b) (hn : Ps.length = n) (hk : k < n) (hb : BOk b)
    (hg : o.guard = none) (hd : o.dst = none) (ho : o.op = .store t x y) (hx : a.eval x = .pointer (some ⟨g, k * 132, none⟩)) (hy : a.eval y = .agg (blkC b).toArray)
    (ht : aggT P t 132 = true)
    (h : ∀ w', w'.ownsRow base e 132 (.slice (some ⟨g, 0, none⟩) n cap) n ((Ps.set k b).flatMap blkC) → w.grownBy w' (some g) → wpList P ops Q rest a w') : wpList P ops Q (o :: rest) a w := by
  obtain ⟨r, hbk, h2, h3, h4, h5⟩ := ownBlk H
  have hxl := H.1
  have hfit : k * 132 + 132 ≤ (Ps.flatMap blkC ++ r).length := by
    rw [List.length_append, hxl]
    have : (k + 1) * 132 ≤ n * 132 := Nat.mul_le_mul_right _ hk
    omega
  refine gStoreMid 132 (k * 132) (blkC b) hbk hg hd ho hx hy ht (bok_cells hb) hfit (blkC_one _) (fun w' hb' hg' => h w' ?_ hg')
  rw [pgs_put Ps hP k (by omega) b hb r] at hb'
  have hl2 : ((Ps.set k b).flatMap blkC).length = n * 132 := by
    rw [flat_len blkC 132 _ (fun b' hb' => bok_cells (set_bok hP k hb b' hb')), List.length_set, hn]
  exact blkOwn hb' h2 h3 h4 (by rw [List.length_append, hl2, ← hxl, ← List.length_append]; exact h5) hl2
theorem great_one (ub : List Sec) (hb : BOk ub) (g b0 : Nat) (hg : grB [ub] = g) (u : Value) (W : World) (hu : NewSl b0 38 1 (blkC ub) u W) : Calls Try.prog 11 #[u] W fun e w' => e = .returned (.int .u64 (g : Int)) ∧ Below W.heap.size W w' := by
  rw [← hg]
  have h := NewSl.sl (sz := 132) hu (by rw [bok_cells hb]) (by decide)
  refine great_any [ub] (fun b h => by rw [List.mem_singleton.1 h]; exact hb) u W ?_
  show SlR W u 132 1 ([ub].flatMap blkC)
  rw [List.flatMap_cons, List.flatMap_nil, List.append_nil]
  exact h
theorem old_dev {b : Nat} {w : World} {Ps : List (List Sec)} {c cc : Nat} {x cx : Option Addr} (hl : Ps.length = 256) (hp : w.ownsRow b 38 132 (.slice x 256 c) 256 (Ps.flatMap blkC)) (hc : w.ownsRow b 88 133 (.slice cx 0 cc) 0 []) : DevO b w (.agg #[.slice x 256 c, .slice cx 0 cc, .int .i64 (-1), .bool false]) (oldD Ps) := by
  refine ⟨_, _, rfl, ?_, hc⟩
  show w.ownsRow b _ 132 _ Ps.length _
  rw [hl]
  exact hp
theorem newD_sec (n : Nat) : SecLe 0 (newD n).pages := by
  intro b hb s hs
  rw [List.eq_of_mem_replicate hb] at hs
  unfold zeroB at hs
  rw [List.eq_of_mem_replicate hs]; exact Nat.zero_le _
theorem set_sec {X : Nat} {Ps : List (List Sec)} (h : SecLe X Ps) {k : Nat} {b : List Sec} (hb : grB [b] ≤ X) : SecLe X (Ps.set k b) := by
  have hg : SecLe X [b] := grB_le.1 hb
  intro x hx
  rcases List.mem_or_eq_of_mem_set hx with h1 | rfl
  · exact h x h1
  · exact hg x (by simp)
theorem dev_pages {b : Nat} {w : World} {px : Option Addr} {pc : Nat} {u z q : Value} {d : Dev} (h : DevO b w (.agg #[.slice px 256 pc, u, z, q]) d) (hl : d.pages.length = 256) : Blks w (.slice px 256 pc) d.pages := by
  obtain ⟨p, c, hv, hp, _⟩ := h
  simp only [Value.agg.injEq, Array.mk.injEq, List.cons.injEq, and_true] at hv
  obtain ⟨rfl, _⟩ := hv
  exact ownSl hp
/-- a device's cells, where all has settled -/
theorem calm_shape {b : Nat} {w : World} {v : Value} {d : Dev} (h : DevO b w v d) (hc : Calm d) : ∃ px pc cx cc, v = .agg #[.slice px 256 pc, .slice cx 0 cc, .int .i64 (-1), .bool false] := by
  obtain ⟨px, pc, cx, cc, rfl⟩ := h.read.shape
  rw [hc.len, hc.cache, hc.pow.2.1, hc.pow.2.2]
  exact ⟨px, pc, cx, cc, rfl⟩
theorem put_calm {d : Dev} (h : Calm d) (r : Rt) : putRt d r = if rightB r = false then (330, dev0) else (0, putDev d r) := by
  by_cases hq : rightB r = false
  · rw [if_pos hq]
    unfold putRt
    rw [if_neg (by rw [pow_why h.pow]; decide), if_neg (by rw [pow_why h.pow]; decide), if_pos (.inl hq)]
  · rw [if_neg hq]
    have hr := (right_iff r).1 (by simpa using hq)
    exact (putRt_ok h.pow hr (by rw [h.len]; exact right_of256 hr)).1
theorem putRt_ok_good {d : Dev} (h : Calm d) {r : Rt} (hr : RightR r) : DGood (putDev d r) := putDev_good h.good h.pow hr (by rw [h.len]; exact right_of256 hr)
theorem u64_plus {G : Nat} (h : G < 18446744073709551615) : IntKind.u64.wrap ((G : Int) + 1) = ((G + 1 : Nat) : Int) := by
  simp [IntKind.wrap, IntKind.bits, IntKind.signed]; omega
theorem rtO_row {b : Nat} {w : World} {u0 u1 u2 u3 : Value} {r : Rt} (h : RtO b w (.agg #[u0, u1, u2, u3]) r) : w.ownsRow b 3 1 u2 r.pages.length (iC r.pages) := by
  obtain ⟨sl, hv, hp⟩ := h
  unfold rtV at hv
  simp only [Value.agg.injEq, Array.mk.injEq, List.cons.injEq, and_true] at hv
  obtain ⟨_, _, rfl, _⟩ := hv
  exact hp
theorem lit_int (m : Int) (w : World) : (Instr.buildSlice 24 1 #[(0, .int .i64 m)]).run Try.prog w = .ok (.slice (some ⟨w.heap.size, 0, none⟩) 1 1) (w.alloc (.cells #[.int .i64 m] 3)) := by kernel_rfl
theorem int_one {b0 : Nat} {m : Int} {u : Value} {W : World} (hu : NewSl b0 3 1 [.int .i64 m] u W) : Ints W u [m] := NewSl.sl (sz := 1) hu rfl (show (1 : Nat) ≤ maxLen by decide)
theorem run_and64 {P : Program} (t : TypeId) (m n r : Int) (h : bits .and .i64 m n = r) (w : World) : (binOp .and t (.int .i64 m) (.int .i64 n)).run P w = .ok (.int .i64 r) w := by
  subst h; rfl
theorem and_15 (m : Int) : bits .and .i64 m 15 = m % 16 := by
  show IntKind.i64.wrap ((BitVec.ofInt 64 m &&& BitVec.ofInt 64 15).toNat : Int) = _
  have h1 : (BitVec.ofInt 64 15).toNat = 2 ^ 4 - 1 := by decide
  rw [BitVec.toNat_and, BitVec.toNat_ofInt, h1, Nat.and_two_pow_sub_one_eq_mod, IntKind.wrap_i64]
  omega
theorem fuse_three (z0 : Int) : ∃ z : Nat, z ≤ 2 ∧ IntKind.u64.wrap z0 = z0 % 18446744073709551616 ∧ (z0 % 18446744073709551616).tmod 3 = (z : Int) ∧ IntKind.i64.wrap (z : Int) = (z : Int) := by
  have h0 := Int.emod_nonneg (z0 % 18446744073709551616) (show (3 : Int) ≠ 0 by decide)
  have h1 := Int.emod_lt_of_pos (z0 % 18446744073709551616) (show (0 : Int) < 3 by decide)
  have h2 : IntKind.u64.wrap z0 = z0 % 18446744073709551616 := by simp [IntKind.wrap, IntKind.bits, IntKind.signed]
  obtain ⟨r, hr⟩ : ∃ r, (z0 % 18446744073709551616) % 3 = r := ⟨_, rfl⟩
  rw [hr] at h0 h1
  refine ⟨r.toNat, by omega, h2, ?_, ?_⟩
  · rw [Int.tmod_eq_emod_of_nonneg (by omega), hr]; omega
  · rw [IntKind.wrap_i64]; omega
end Go.Proofs.Ytjnnnnolikbjcaa
end
section
/-
  DEVICES: Light (from device's texts).
-/
namespace Go.Proofs.Ytjnnnnolikbjcaa
open Go.ChangeShapes Go.WideShapes Go.ChangeAt Go.RowKit Agg Pg Dv

set_option maxHeartbeats 4000000 in
set_option maxRecDepth 100000 in
theorem lightC_any (d : Dev) (n : Int) (base t bn : Nat) (w : World) (HT : TurnO base w t d) (HN : Blk w bn 3 [.int .i64 n]) (hbn : bn < base) :
    Calls Try.prog 44 #[.pointer (some ⟨t, 0, none⟩), .pointer (some ⟨bn, 0, none⟩)] w fun e w' => e = .returned (.int .i64 (lightP d n).1) ∧ TurnO base w' t (lightP d n).2 ∧ Below base w w' := by
  obtain ⟨P, l, z, q⟩ := d
  obtain ⟨p, c, hbt, H1, HP, HC⟩ := HT
  obtain ⟨px, pc, rfl, _, _⟩ := (ownSl HP).shape
  obtain ⟨cx, cc, rfl, _, _⟩ := (ownSl HC).shape
  have HT1 := Lib.hid H1
  have h1 := H1
  have HP := Lib.hid HP
  have HC := Lib.hid HC
  have HN := Lib.hid HN
  have hlt := H1.lt
  obtain ⟨r, hr⟩ : ∃ r, lightP ⟨P, l, z, q⟩ n = r := ⟨_, rfl⟩
  rw [hr]
  have HR := Lib.hid hr
  clear H1 hr
  have HB := Lib.hid (Below.refl w.heap.size w)
  go_enter Try.func44, Try.ntmps44
  have xHT1_0 := HT1.out.cell 0
  have xHT1_1 := HT1.out.cell 1
  have xHT1_2 := HT1.out.cell 2
  have xHT1_3 := HT1.out.cell 3
  have lHT1 := HT1.out.lt
  simp only [List.getElem?_cons_zero, List.getElem?_cons_succ] at xHT1_0 xHT1_1 xHT1_2 xHT1_3
  have xHN_0 := HN.out.cell 0
  have lHN := HN.out.lt
  simp only [List.getElem?_cons_zero] at xHN_0
  by_cases hn : 0 ≤ n ∧ n ≤ 10000
  · have hr := HR.out
    rw [lightP, if_pos hn] at hr
    subst hr
    obtain ⟨hn1, hn2⟩ := hn
    go_wp2_with (refine Agg.gStoreCell 2 (.int .i64 n) h1 rfl rfl rfl rfl rfl (by kernel_rfl) rfl (by simp) rfl (fun w12 hb12 hg12 => ?_); clear h1)
    go_ret
    refine ⟨rfl, ⟨_, _, hbt, hb12, HP.out.kept hg12 (own_apart HP.out HT1.out bTne), HC.out.kept hg12 (own_apart HC.out HT1.out wTne)⟩, ?_⟩
    exact grown_below hg12 (by omega) (fun j hj => (by cases hj; exact hbt))
  · have hr := HR.out
    rw [lightP, if_neg hn] at hr
    subst hr
    by_cases h0 : n < 0
    · go_wp2_with fail
      go_ret
      exact ⟨rfl, ⟨_, _, hbt, HT1.out, HP.out, HC.out⟩, Below.refl _ _⟩
    · have hn2 : n > 10000 := by omega
      clear hn
      go_wp2_with fail
      go_ret
      exact ⟨rfl, ⟨_, _, hbt, HT1.out, HP.out, HC.out⟩, Below.refl _ _⟩
set_option maxHeartbeats 4000000 in
set_option maxRecDepth 100000 in
theorem light_any (P : List (List Sec)) (l : List (Int × List Sec)) (z : Int) (q : Bool) (x y : Option Addr) (cap cm : Nat) (k : Int) (w : World)
    (hd1 : P.length ≤ 1000000) (hd2 : l.length ≤ 1000000) (hp : Pgs w (.slice x P.length cap) P) (hv : Wrs w (.slice y l.length cm) l) (hP : ∀ b ∈ P, BOk b) (hC : ∀ x ∈ l, BOk x.2) :
    Calls Try.prog 16 #[.agg #[.slice x P.length cap, .slice y l.length cm, .int .i64 z, .bool q], .int .i64 k] w fun e w' => ∃ v, e = .returned (.tuple #[v, .int .i64 (goesP ⟨P, l, z, q⟩ (lightP ⟨P, l, z, q⟩ k)).1]) ∧ DevO w.heap.size w' v (goesP ⟨P, l, z, q⟩ (lightP ⟨P, l, z, q⟩ k)).2 ∧ Below w.heap.size w w' := by
  have HP := Lib.hid hp
  have HV := Lib.hid hv
  have HGO := Lib.hid (fun W caps h1 h2 h3 => goes_any P l z q x y cap cm 44 caps (Agg.enters Try.func44 (by kernel_rfl) rfl) (lightP ⟨P, l, z, q⟩ k) W hd1 hd2 h1 h2 hP hC h3)
  have HD := Lib.hid (And.intro hd1 hd2)
  obtain ⟨g, hg⟩ : ∃ g, goesP ⟨P, l, z, q⟩ (lightP ⟨P, l, z, q⟩ k) = g := ⟨_, rfl⟩
  rw [hg] at HGO ⊢
  clear hp hv hP hC hd1 hd2 hg
  have HB := Lib.hid (Below.refl w.heap.size w)
  go_enter Try.func16, Try.ntmps16
  go_upto_region 1 with (fail)
  refine Agg.wp_at fun w1 hw1 => ?_
  have hb : Below w.heap.size w w1 := by rw [hw1.out]; repeat (first | exact Below.refl _ _ | refine Agg.bel_drew ?_ | refine Agg.bel_alloc ?_ _)
  replace HB := Lib.hid (HB.out.trans (hb.mono HB.out.size))
  replace HP := Lib.hid (HP.out.keep hb)
  replace HV := Lib.hid (HV.out.keep hb)
  clear hb
  have H1 : Hid (Blk w1 w.heap.size 30 [.slice x P.length cap, .slice y l.length cm, .int .i64 z, .bool q]) := by show Blk _ _ _ _; rw [hw1.out]; exact ((Blk.new w 30 #[.slice x P.length cap, .slice y l.length cm, .int .i64 z, .bool q]).al _).al _
  have H2 : Hid (Blk w1 (w.heap.size + 1) 3 [.int .i64 k]) := by show Blk _ _ _ _; rw [hw1.out]; exact (Blk.newAt (w.alloc _) 3 #[.int .i64 k] _ (by simp)).al _
  have H4 : Hid (Blk w1 (w.heap.size + 2) 30 [.slice none 0 0, .slice none 0 0, .int .i64 0, .bool false]) := by show Blk _ _ _ _; rw [hw1.out]; exact Blk.newAt ((w.alloc _).alloc _) 30 #[.slice none 0 0, .slice none 0 0, .int .i64 0, .bool false] _ (by simp)
  clear hw1
  have xH1_0 := H1.out.cell 0
  have xH1_1 := H1.out.cell 1
  have xH1_2 := H1.out.cell 2
  have xH1_3 := H1.out.cell 3
  have lH1 := H1.out.lt
  simp only [List.getElem?_cons_zero, List.getElem?_cons_succ] at xH1_0 xH1_1 xH1_2 xH1_3
  go_wp2_with fail
  have l2 := H2.out.lt
  have l4 := H4.out.lt
  have hsz := HB.out.size
  clear xH1_0 xH1_1 xH1_2 xH1_3 lH1
  refine (HGO.out w1 #[.pointer (some ⟨w.heap.size + 1, 0, none⟩)] HP.out HV.out (fun hr hq W base t hbase hW hT => (lightC_any ⟨P, l, z, q⟩ k base t (w.heap.size + 1) W hT (H2.out.keep hW) (by omega)))).mono ?_
  rintro e w2 ⟨v, rfl, hv, hb⟩
  replace HB := Lib.hid (HB.out.trans (hb.mono HB.out.size))
  replace HP := Lib.hid (HP.out.keep hb)
  replace HV := Lib.hid (HV.out.keep hb)
  replace H1 := Lib.hid (H1.out.keep hb)
  replace H2 := Lib.hid (H2.out.keep hb)
  replace H4 := Lib.hid (H4.out.keep hb)
  clear hb
  obtain ⟨er, dr⟩ := g
  obtain ⟨p', c', rfl, hP5, hC5⟩ := hv
  obtain ⟨px', pc', rfl, _, _⟩ := (ownSl hP5).shape
  obtain ⟨cx', cc', rfl, _, _⟩ := (ownSl hC5).shape
  have h4 := H4.out
  have hsz5 := HB.out.size
  have HP5 := Lib.hid hP5
  have HC5 := Lib.hid hC5
  clear hP5 hC5
  go_wp2_with (refine Agg.gStoreB 4 [.slice px' dr.pages.length pc', .slice cx' dr.cache.length cc', .int .i64 dr.fuse, .bool dr.off] h4 rfl rfl rfl rfl rfl (by decide +kernel) rfl rfl (by simp [Value.oneCell']) (fun w14 hb14 hg14 => ?_))
  refine bodyPost_ret (results_row2 (m := 4) rfl hb14 rfl (by decide +kernel) rfl) rfl ⟨_, rfl, ⟨_, _, rfl, ?_, ?_⟩, ?_⟩
  · exact own_base (HP5.out.kept hg14 (own_off HP5.out l4)) hsz
  · exact own_base (HC5.out.kept hg14 (own_off HC5.out l4)) hsz
  · exact HB.out.trans (grown_below hg14 hsz5 (fun j hj => (by cases hj; omega)))
variable {d : Dev} {v : Value} {w : World}
theorem light_R (hg : DGood d) (hc : d.cache.length ≤ 1000000) (hv : DevR w v d) (k : Int) :
    Calls Try.prog 16 #[v, .int .i64 k] w fun e w' => ∃ u, e = .returned (.tuple #[u, .int .i64 (goesP d (lightP d k)).1]) ∧ DevO w.heap.size w' u (goesP d (lightP d k)).2 ∧ Below w.heap.size w w' := by
  obtain ⟨x, y, cap, cm, rfl, h2, h3⟩ := hv
  exact light_any d.pages d.cache d.fuse d.off x y cap cm k w hg.n1 hc h2 h3 hg.pages hg.cache
end Go.Proofs.Ytjnnnnolikbjcaa
end
