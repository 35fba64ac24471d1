/-
  THE LOG: all, what comes up to what is none; Replay.
-/
import Derived.Test.YtlddjcilbpcciaaLg5
section
namespace Go.Proofs.Ytlddjcilbpcciaa
open Go.ChangeShapes Go.WideShapes Go.ChangeAt Go.RowKit Agg Pg Dv Lg
attribute [local go_sem] Oper.semAt_some

theorem tiGG : TI Try.prog 31 37 1 24 (.slice none 0 0) := ⟨by kernel_rfl, by kernel_rfl, rfl, by decide⟩
/-- groups in memory of their own -/
def GrpO (w : World) (b : Nat) (u : Value) (gs : List (List UInt8)) : Prop := ∃ vs : List Value, w.ownsRow b 37 1 u gs.length vs ∧ vs.length = gs.length ∧ ∀ (i : Nat) (v : Value) (g : List UInt8), vs[i]? = some v → gs[i]? = some g → w.ownsRow b 5 1 v g.length (bv g)
theorem GrpO.keep {w w' : World} {b : Nat} {u : Value} {gs : List (List UInt8)} (h : GrpO w b u gs) (hb : Below w.heap.size w w') : GrpO w' b u gs := by
  obtain ⟨vs, h1, h2, h3⟩ := h
  exact ⟨vs, h1.keep hb, h2, fun i v g hv hg => (h3 i v g hv hg).keep hb⟩
theorem GrpO.grown {w w' : World} {b k : Nat} {u : Value} {gs : List (List UInt8)} (h : GrpO w b u gs) (hg : w.grownBy w' (some k)) (hk : k < b) : GrpO w' b u gs := by
  obtain ⟨vs, h1, h2, h3⟩ := h
  exact ⟨vs, h1.kept hg (own_off h1 hk), h2, fun i v g hv hgs => (h3 i v g hv hgs).kept hg (own_off (h3 i v g hv hgs) hk)⟩
theorem grown_same' {w1 w2 w3 : World} {g : Nat} {row : Option Nat} (h1 : w1.grownBy w2 (some g)) (h2 : w2.grownBy w3 row) (hr : ∀ k, row = some k → w1.heap.size ≤ k) : w1.grownBy w3 (some g) :=
  ⟨h2.os.trans h1.os, h2.tape.trans h1.tape, h2.output.trans h1.output, Nat.le_trans h1.size h2.size, fun k hk hne => (h2.block k (Nat.lt_of_lt_of_le hk h1.size) (fun e => by have := hr k e.symm; omega)).trans (h1.block k hk hne)⟩
theorem GrpO.nil (w : World) (b : Nat) : GrpO w b (.slice none 0 0) [] := ⟨[], World.ownsRow_nil _ _ _ _, rfl, fun i v g hv => by simp at hv⟩
theorem repG_grp {f : Nat → List Sec} {p l m : Nat} (hm : nextG f p l = m) : decide (grp f p m = []) = decide (m = 0) := by
  rcases nextG_cases f p l with ⟨h4, _⟩ | ⟨h4, h5, h6⟩
  · rw [hm] at h4; subst h4; rfl
  · rw [hm] at h4 h6
    have hl := (try_lies h6 h4).1
    have h7 : grp f p m ≠ [] := by
      intro e
      have h8 := hl.need
      rw [e] at h8
      unfold needL at h8
      simp at h8
      omega
    have h9 : m ≠ 0 := by omega
    simp [h7, h9]
theorem repG_le {f : Nat → List Sec} {p last : Nat} (h : p ≤ 16) (hf : ∀ i, BOk (f i)) : (repG f p last).1.length ≤ 16 - p := by
  have : ∀ (n p last : Nat), 16 - p ≤ n → (repG f p last).1.length ≤ 16 - p := by
    intro n
    induction n with
    | zero =>
      intro p last h1
      have h3 : nextG f p last = 0 := by unfold nextG; rw [show 16 - p = 0 by omega]; rfl
      rw [repG_end h3]; exact Nat.zero_le _
    | succ n ih =>
      intro p last h1
      by_cases h3 : nextG f p last = 0
      · rw [repG_end h3]; exact Nat.zero_le _
      · obtain ⟨m, hm⟩ : ∃ m, nextG f p last = m := ⟨_, rfl⟩
        rw [hm] at h3
        rw [repG_next hm h3]
        rcases nextG_cases f p last with ⟨h4, _⟩ | ⟨h4, h5, _⟩
        · omega
        · rw [hm] at h4 h5
          have := ih (p + m) (pSt (f p) + m - 1) (by omega)
          simp only [List.length_cons]; omega
  exact this (16 - p) p last (Nat.le_refl _)
set_option maxRecDepth 100000 in
theorem bEqual_any (l m : List UInt8) (u v : Value) (w : World) (hu : Bytes w u l) (hv : Bytes w v m) (r : Bool) (hr : decide (l = m) = r) :
    Calls Try.prog 18 #[u, v] w fun e w' => e = .returned (.bool r) ∧ Below w.heap.size w w' := by
  obtain ⟨x, cap, rfl, hc, hm⟩ := SlR.shape hu
  obtain ⟨y, dap, rfl, hd, hn⟩ := SlR.shape hv
  have hc3 : cap ≤ 9223372036854775807 := by unfold maxLen at hm; omega
  have hd3 : dap ≤ 9223372036854775807 := by unfold maxLen at hn; omega
  have h1 := conv_str hu
  have h2 := conv_str hv
  have HE := Lib.hid ((strB_inj l m).trans hr)
  clear hu hv hm hn hr
  generalize strB l = s1 at *
  generalize strB m = s2 at *
  have HB := Lib.hid (Below.refl w.heap.size w)
  go_enter Try.func18, Try.ntmps18
  go_wp2_with fail
  go_ret
  exact ⟨by rw [← HE.out]; rfl, HB.out⟩
theorem none_any (g : List UInt8) (v : Value) (w : World) (hv : Bytes w v g) (r : Bool) (hr : decide (g = []) = r) :
    Calls Try.prog 35 #[v] w fun e w' => e = .returned (.bool r) ∧ Below w.heap.size w w' := by
  obtain ⟨x, c, rfl, _⟩ := SlR.shape hv
  have HV := Lib.hid hv
  clear hv
  have HB := Lib.hid (Below.refl w.heap.size w)
  go_enter Try.func35, Try.ntmps35
  go_wp2_with fail
  refine (bEqual_any g [] _ _ w HV.out (SlR.nil _ _) r hr).mono ?_
  rintro e w1 ⟨rfl, hb⟩
  replace HB := Lib.hid (HB.out.trans (hb.mono HB.out.size))
  replace HV := Lib.hid (HV.out.keep hb)
  clear hb
  go_wp2_with fail
  go_ret
  exact ⟨rfl, HB.out⟩
set_option maxHeartbeats 4000000 in
set_option maxRecDepth 100000 in
theorem all_any (d : Dev) (p0 last : Nat) (px cx : Option Addr) (pc cc gr : Nat) (w0 w : World) (hd : DGood d) (hc : d.cache.length ≤ 1000000) (hr : rightD d = true) (ho : d.off = false) (hp : p0 ≤ 16) (hl : last < 18446744073709551616)
    (hD : DevR w0 (.agg #[.slice px d.pages.length pc, .slice cx d.cache.length cc, .int .i64 d.fuse, .bool d.off]) d) (h0 : Below w0.heap.size w0 w) (hg : w0.heap.size ≤ gr) (hR : Blk w gr 73 (rdC d px cx pc cc p0 last)) :
    Calls Try.prog 33 #[.func (.func 34) #[.pointer (some ⟨gr, 0, none⟩)] #[], .func (.func 35) #[] #[]] w fun e w' => ∃ u, e = .returned u ∧ GrpO w' w.heap.size u (repG (atL d) p0 last).1 ∧ Blk w' gr 73 (rdC d px cx pc cc (repG (atL d) p0 last).2.1 (repG (atL d) p0 last).2.2) ∧ w.grownBy w' (some gr) := by
  have HNX := Lib.hid (fun p l W (h1 : p ≤ 16) (h2 : l < 18446744073709551616) hD hR => next_any d p l px cx pc cc gr W hd hc hr ho h1 h2 hD hR _ rfl)
  have HD0 := Lib.hid hD
  have HR := Lib.hid hR
  have HW0 := Lib.hid h0
  have hgr := hR.lt
  have HBK := Lib.hid (fun q => atL_bok hd q)
  have HGW0 := Lib.hid (World.grownBy.refl w (some gr))
  clear hd hc hr ho hD hR h0
  generalize atL d = f at *
  obtain ⟨R, hRR⟩ : ∃ R, repG f p0 last = R := ⟨_, rfl⟩
  have HRR := Lib.hid hRR
  rw [hRR]
  have hrl : R.1.length ≤ 16 := by rw [← hRR]; exact Nat.le_trans (repG_le hp HBK.out) (by omega)
  clear hRR
  have HB := Lib.hid (Below.refl w.heap.size w)
  go_enter Try.func33, Try.ntmps33
  go_wp2_with fail
  go_loopw [5] (fun s5 wr => ∃ (gs : List (List UInt8)) (p l : Nat), GrpO wr w.heap.size s5 gs ∧ (∃ y c, s5 = .slice y gs.length c) ∧ Blk wr gr 73 (rdC d px cx pc cc p l) ∧ w.grownBy wr (some gr) ∧ gs ++ (repG f p l).1 = R.1 ∧ (repG f p l).2 = R.2 ∧ p ≤ 16 ∧ l < 18446744073709551616) (fun s5 _ => match s5 with | .slice _ n _ => 17 - n | _ => 0)
  case atStart => exact ⟨[], p0, last, GrpO.nil _ _, ⟨none, 0, rfl⟩, HR.out, HGW0.out, by rw [HRR.out]; rfl, by rw [HRR.out], hp, hl⟩
  case round =>
    obtain ⟨gs, p, l, hG, ⟨y, c, rfl⟩, hR, hgw, he1, he2, hp2, hl2⟩ := hrel
    have HG := Lib.hid hG
    have HRW := Lib.hid hR
    have HGW := Lib.hid hgw
    have HE := Lib.hid (And.intro he1 he2)
    have hgl : gs.length ≤ 16 := by
      have := congrArg List.length he1
      rw [List.length_append] at this; omega
    clear hG hR hgw he1 he2
    obtain ⟨wA, hwA⟩ : ∃ x, x = wr := ⟨_, rfl⟩
    subst hwA
    have hDw := HD0.out.keep (HW0.out.trans (grown_below HGW.out HW0.out.size (fun j e => by cases e; exact hg)))
    go_wp2_with fail
    obtain ⟨m, hm⟩ : ∃ m, nextG f p l = m := ⟨_, rfl⟩
    have hnx := HNX.out p l wA hp2 hl2 hDw HRW.out
    rw [hm] at hnx
    refine hnx.mono ?_
    rintro e w1 ⟨u, rfl, hu, hR1, hg1⟩
    clear hnx hDw
    obtain ⟨ux, uc, rfl, _, _⟩ := (ownSl hu).shape
    have HU := Lib.hid (own_base hu HGW.out.size)
    have HG1 := Lib.hid (HG.out.grown hg1 hgr)
    have HR1 := Lib.hid hR1
    have HGW1 := Lib.hid (grown_same HGW.out hg1)
    have hsA := HGW.out.size
    have hs1 := hg1.size
    have hgm := repG_grp hm
    have hglen := grp_len f p m HBK.out
    have hm16 : p + m ≤ 16 := by rw [← hm]; exact nextG_le hp2
    have hpst : pSt (f p) ≤ 4611686018427387904 := pSt_le (HBK.out p)
    have HMM := Lib.hid hm
    obtain ⟨q, hq⟩ : ∃ q, decide (m = 0) = q := ⟨_, rfl⟩
    rw [hq] at hgm
    have HGM := Lib.hid hgm
    have HQ := Lib.hid hq
    clear hu hR1 hg1 hgm hm hq HG HRW HGW
    obtain ⟨G, hGe⟩ : ∃ G, grp f p m = G := ⟨_, rfl⟩
    have HGE := Lib.hid hGe
    rw [hGe] at HU HGM hglen
    rw [hGe]
    clear hGe
    have HB := Lib.hid (Below.refl w1.heap.size w1)
    go_wp2_with fail
    refine (none_any G _ w1 (ownSl HU.out) q HGM.out).mono ?_
    rintro e w2 ⟨rfl, hb2⟩
    replace HU := Lib.hid (HU.out.keep hb2)
    replace HG1 := Lib.hid (HG1.out.keep hb2)
    replace HR1 := Lib.hid (HR1.out.keep hb2)
    have HGW2 := Lib.hid (grown_same HGW1.out (below_grownBy hb2 (some gr)))
    have hs2 := hb2.size
    clear hb2 HGW1 HB
    cases q
    · have hm0 : m ≠ 0 := by have := HQ.out; simpa using this
      have hrn := repG_next HMM.out hm0
      rw [HGE.out] at hrn
      have HE1 := HE.out
      rw [hrn] at HE1
      have HE2 : Hid ((gs ++ [G]) ++ (repG f (p + m) (pSt (f p) + m - 1)).1 = R.1 ∧ (repG f (p + m) (pSt (f p) + m - 1)).2 = R.2) := Lib.hid ⟨by rw [List.append_assoc]; exact HE1.1, HE1.2⟩
      have HLG : Hid (lastG l (pSt (f p)) m = pSt (f p) + m - 1) := Lib.hid (by unfold lastG; rw [if_neg hm0])
      clear hm0 hrn HE1 HE HQ HMM HGE
      obtain ⟨vs, ho, hvl, hve⟩ := HG1.out
      have HO := Lib.hid ho
      have HVE := Lib.hid hve
      clear ho hve HG1
      have hbA : Below w2.heap.size w2 (w2.alloc (.cells #[.slice ux G.length uc] 37)) := (Below.refl _ _).alloc (Nat.le_refl _) _
      have hC3 := own_keep HO.out hbA
      have hsl : SlR (w2.alloc (.cells #[.slice ux G.length uc] 37)) (.slice (some ⟨w2.heap.size, 0, none⟩) 1 1) 1 1 [.slice ux G.length uc] := NewSl.sl (b0 := 0) (e := 37) ⟨_, rfl, Nat.zero_le _, Blk.new w2 37 #[.slice ux G.length uc]⟩ rfl (by unfold maxLen; decide)
      have hlw : w.heap.size ≤ (w2.alloc (.cells #[.slice ux G.length uc] 37)).heap.size := by have := hbA.size; omega
      have hone : ∀ u ∈ [Value.slice ux G.length uc], u.oneCell' = true := by simp [Value.oneCell']
      have hmx : gs.length + 1 ≤ maxLen := by unfold maxLen; omega
      have hby : (gs.length + 1) * 24 ≤ 140737488355328 := by omega
      go_wp2_with (refine Agg.append2 tiGG (.tmp 13) (.tmp 15) rfl rfl w.heap.size (v := .slice y gs.length c) rfl hC3 rfl hsl hone hmx hby hlw (fun v2 w4 hC4 hg4 hwh => ?_); obtain ⟨v2x, v2c, rfl, _, _⟩ := (ownSl hC4).shape; simp only [Act.put, List.setIfInBounds_toArray, List.set_cons_succ, List.set_cons_zero])
      have hU4 := (HU.out.keep hbA).kept hg4 (own_own (HU.out.keep hbA) hC3 (by decide))
      have hR4 := blk_row (HR1.out.keep hbA) hg4 (own_off hC3 hgr)
      have hgw4 := grown_same' (grown_same HGW2.out (below_grownBy hbA (some gr))) hg4 (own_block hC3)
      have hGO : GrpO w4 w.heap.size (.slice v2x (gs.length + 1) v2c) (gs ++ [G]) := by
        refine ⟨vs ++ [.slice ux G.length uc], by rw [List.length_append]; exact hC4, by simp [hvl], fun i v g hv hg => ?_⟩
        by_cases hi : i < gs.length
        · rw [List.getElem?_append_left (by omega)] at hv
          rw [List.getElem?_append_left hi] at hg
          have h1 := (HVE.out i v g hv hg).keep hbA
          exact h1.kept hg4 (own_own h1 hC3 (by decide))
        · rw [List.getElem?_append_right (by omega)] at hv
          rw [List.getElem?_append_right (by omega)] at hg
          have hi0 : i - gs.length = 0 := by
            have := (List.getElem?_eq_some_iff.1 hg).1
            simp at this; omega
          rw [hvl, hi0] at hv
          rw [hi0] at hg
          simp only [List.getElem?_cons_zero, Option.some.injEq] at hv hg
          subst hv; subst hg
          exact hU4
      rw [HLG.out] at hR4
      exact ⟨⟨gs ++ [G], p + m, pSt (f p) + m - 1, hGO, ⟨v2x, v2c, by rw [List.length_append]; rfl⟩, hR4, hgw4, HE2.out.1, HE2.out.2, hm16, by omega⟩, by show 17 - (gs.length + 1) < 17 - gs.length; omega⟩
    · have hm0 : m = 0 := by have := HQ.out; simpa using this
      subst hm0
      have hrn := repG_end HMM.out
      have he := HE.out
      rw [hrn, List.append_nil] at he
      have HGF : GrpO w2 w.heap.size (.slice y gs.length c) R.1 := by rw [← he.1]; exact HG1.out
      have HRF := HR1.out
      have hrd : rdC d px cx pc cc (p + 0) (lastG l (pSt (f p)) 0) = rdC d px cx pc cc R.2.1 R.2.2 := by rw [← he.2]; rfl
      rw [hrd] at HRF
      clear hrd hrn he
      go_wp2_with fail
      go_ret
      exact ⟨_, rfl, HGF, HRF, HGW2.out⟩
end Go.Proofs.Ytlddjcilbpcciaa
end
section
/-
  THE LOG: Replay.
-/
namespace Lg
open Go Go.RowKit Agg Pg Dv
theorem results_mid {P : Program} {fn : Func} {p u v : Tmp} {ty : TypeId} (h : fn.results = #[.tmp u, .cell p ty, .tmp v]) {tmps : Array Value} {w : World} {m g : Nat} {T : TypeId} {cs : List Value} (H : Blk w g T cs) (hp : tmps.getD p undef = .pointer (some ⟨g, 0, none⟩)) (ht : aggT P ty m = true) (hm : cs.length = m) :
    (results fn tmps).run P w = .ok (.tuple #[tmps.getD u undef, .agg cs.toArray, tmps.getD v undef]) w := by
  have hp' : tmps[p]?.getD undef = .pointer (some ⟨g, 0, none⟩) := by simpa using hp
  simp [results, h, hp', asAddr, run_row H ht hm]
theorem gBuild2 {P : Program} {w : World} {o : Oper} {Q : Exit → Act → World → Prop} {ops : Array Oper} {rest : List Oper} {a : Act} {t : TypeId} {x y : Operand} {u1 u2 : Value} (v : Value) (hg : o.guard = none) (ho : o.op = .build t #[(0, x), (1, y)]) (hx : a.eval x = u1) (hy : a.eval y = u2) (hr : ∀ w2, (Instr.build t #[(0, u1), (1, u2)]).run P w2 = .ok v w2)
    (h : wpList P ops Q rest (a.put o.dst v) w) : wpList P ops Q (o :: rest) a w := by
  refine Agg.run hg v w ?_ h
  simp [execOp, ho, hx, hy, hr]
end Lg
namespace Go.Proofs.Ytlddjcilbpcciaa
open Go.ChangeShapes Go.WideShapes Go.ChangeAt Go.RowKit Agg Pg Dv Lg
attribute [local go_sem] Oper.semAt_some

theorem GrpO.base {w : World} {b b' : Nat} {u : Value} {gs : List (List UInt8)} (h : GrpO w b u gs) (hb : b' ≤ b) : GrpO w b' u gs := by
  obtain ⟨vs, h1, h2, h3⟩ := h
  exact ⟨vs, own_base h1 hb, h2, fun i v g hv hg => own_base (h3 i v g hv hg) hb⟩
/-- what is replayed: the groups, where the log ends -/
noncomputable def repA (d : Dev) (after : Nat) : List (List UInt8) × Nat × Nat := if askL d = 0 then repG (atL d) 0 after else ([], 0, 0)
theorem askL_zero {d : Dev} (h : askL d = 0) : rightD d = true ∧ d.off = false := by
  unfold askL at h
  split at h
  · rename_i h1
    split at h
    · omega
    · rename_i h2; exact ⟨h1, by simpa using h2⟩
  · omega
theorem build_rd (a b p c f o : Value) (h1 : a.oneCell' = true) (h2 : b.oneCell' = true) (h3 : p.oneCell' = true) (h4 : c.oneCell' = true) (h5 : f.oneCell' = true) (h6 : o.oneCell' = true) (w : World) : (Instr.build 73 #[(0, .agg #[a, b]), (1, .agg #[p, c, f, o])]).run Try.prog w = .ok (.agg #[a, b, p, c, f, o]) w := by
  have h := run_build_seq (P := Try.prog) (t := 73) (pl := [(0, 2), (2, 4)]) (N := 6) (by kernel_rfl) rfl [.agg #[a, b], .agg #[p, c, f, o]] (by simp [Value.cells]) (by simp [Value.cells]) w
  simpa [Value.cells] using h
set_option maxHeartbeats 4000000 in
set_option maxRecDepth 100000 in
theorem Replay_any (d : Dev) (after : Nat) (dv : Value) (w : World) (hd : DGood d) (hc : d.cache.length ≤ 1000000) (hD : DevR w dv d) (hl : after < 18446744073709551616) :
    Calls Try.prog 13 #[dv, .int .u64 (after : Int)] w fun e w' => ∃ u, e = .returned (.tuple #[u, .agg #[.int .i64 ((repA d after).2.1 : Int), .int .u64 ((repA d after).2.2 : Int)], .int .i64 (askL d)]) ∧ GrpO w' w.heap.size u (repA d after).1 ∧ Below w.heap.size w w' := by
  obtain ⟨px, cx, pc, cc, rfl, hk2, hk3⟩ := hD
  have hD : DevR w (.agg #[.slice px d.pages.length pc, .slice cx d.cache.length cc, .int .i64 d.fuse, .bool d.off]) d := ⟨px, cx, pc, cc, rfl, hk2, hk3⟩
  clear hk2 hk3
  have HD := Lib.hid hD
  have HAS := Lib.hid (fun W v hv => asked_any d v W hd hv)
  have HAL := Lib.hid (fun (h : askL d = 0) gr W h0 h1 h2 => all_any d 0 after px cx pc cc gr w W hd hc (askL_zero h).1 (askL_zero h).2 (by decide) hl hD h0 h1 h2)
  obtain ⟨r, hr⟩ : ∃ r, askL d = r := ⟨_, rfl⟩
  have HRA : Hid (repA d after = if r = 0 then repG (atL d) 0 after else ([], 0, 0)) := Lib.hid (by unfold repA; rw [hr])
  rw [hr] at HAS HAL ⊢
  generalize repA d after = R at *
  generalize atL d = f at *
  clear hr hd hc hD
  have HB := Lib.hid (Below.refl w.heap.size w)
  go_enter Try.func13, Try.ntmps13
  go_upto_region 1 with (fail)
  refine Agg.wp_at fun w1 hw1 => ?_
  have hb : Below w.heap.size w w1 := by rw [hw1.out]; repeat (first | exact Below.refl _ _ | refine Agg.bel_drew ?_ | refine Agg.bel_alloc ?_ _)
  replace HB := Lib.hid (HB.out.trans (hb.mono HB.out.size))
  replace HD := Lib.hid (HD.out.keep hb)
  clear hb
  have H2 : Hid (Blk w1 w.heap.size 28 [.slice px d.pages.length pc, .slice cx d.cache.length cc, .int .i64 d.fuse, .bool d.off]) := by show Blk _ _ _ _; rw [hw1.out]; exact (Blk.new w 28 #[.slice px d.pages.length pc, .slice cx d.cache.length cc, .int .i64 d.fuse, .bool d.off]).al _
  have H5 : Hid (Blk w1 (w.heap.size + 1) 33 [.int .i64 0, .int .u64 0]) := by show Blk _ _ _ _; rw [hw1.out]; exact Blk.newAt (w.alloc _) 33 #[.int .i64 0, .int .u64 0] _ (by simp)
  clear hw1
  have l5 := H5.out.lt
  have h2 := H2.out
  go_wp2_with (refine Agg.gLoadB 4 h2 rfl rfl rfl rfl (by decide +kernel) ?_; simp only [Act.put, List.setIfInBounds_toArray, List.set_cons_succ, List.set_cons_zero])
  clear h2
  refine (HAS.out w1 _ HD.out).mono ?_
  rintro e w2 ⟨rfl, hb⟩
  replace HB := Lib.hid (HB.out.trans (hb.mono HB.out.size))
  replace HD := Lib.hid (HD.out.keep hb)
  replace H2 := Lib.hid (H2.out.keep hb)
  replace H5 := Lib.hid (H5.out.keep hb)
  clear hb
  by_cases hz : r = 0
  · subst hz
    have h2 := H2.out
    have hbr := fun W => build_rd (.int .i64 0) (.int .u64 (after : Int)) (.slice px d.pages.length pc) (.slice cx d.cache.length cc) (.int .i64 d.fuse) (.bool d.off) rfl rfl rfl rfl rfl rfl W
    have HBR := Lib.hid hbr
    clear hbr
    go_upto_region 5 with (first
      | (refine Agg.gLoadB 4 h2 rfl rfl rfl rfl (by decide +kernel) ?_; simp only [Act.put, List.setIfInBounds_toArray, List.set_cons_succ, List.set_cons_zero])
      | (refine gBuild2 (u1 := .agg #[.int .i64 0, .int .u64 (after : Int)]) (u2 := .agg #[.slice px d.pages.length pc, .slice cx d.cache.length cc, .int .i64 d.fuse, .bool d.off]) (.agg #[.int .i64 0, .int .u64 (after : Int), .slice px d.pages.length pc, .slice cx d.cache.length cc, .int .i64 d.fuse, .bool d.off]) rfl rfl rfl rfl HBR.out ?_; simp only [Act.put, List.setIfInBounds_toArray, List.set_cons_succ, List.set_cons_zero]))
    clear h2
    have l5b := H5.out.lt
    refine Agg.wp_at fun w3 hw3 => ?_
    have hb : Below w2.heap.size w2 w3 := by rw [hw3.out]; repeat (first | exact Below.refl _ _ | refine Agg.bel_drew ?_ | refine Agg.bel_alloc ?_ _)
    replace HB := Lib.hid (HB.out.trans (hb.mono HB.out.size))
    replace HD := Lib.hid (HD.out.keep hb)
    replace H2 := Lib.hid (H2.out.keep hb)
    replace H5 := Lib.hid (H5.out.keep hb)
    clear hb
    have H8 : Hid (Blk w3 w2.heap.size 73 (rdC d px cx pc cc 0 after)) := by show Blk _ _ _ _; rw [hw3.out]; exact Blk.new w2 73 #[.int .i64 0, .int .u64 (after : Int), .slice px d.pages.length pc, .slice cx d.cache.length cc, .int .i64 d.fuse, .bool d.off]
    have hsP : w.heap.size + 2 ≤ w2.heap.size := by omega
    clear hw3
    obtain ⟨gr, hgr⟩ : ∃ g, w2.heap.size = g := ⟨_, rfl⟩
    rw [hgr] at H8 hsP ⊢
    clear hgr
    go_wp2_with fail
    refine (HAL.out trivial gr w3 HB.out (by omega) H8.out).mono ?_
    rintro e w4 ⟨u, rfl, hG, hR4, hg4⟩
    have hR : R = repG f 0 after := by have h := HRA.out; simpa using h
    rw [← hR] at hG hR4
    have HG := Lib.hid hG
    have HR4 := Lib.hid hR4
    have HB4 := Lib.hid (HB.out.trans (grown_below hg4 HB.out.size (fun j e => by cases e; omega)))
    have H54 := Lib.hid (H5.out.far' hg4 (by omega))
    have hsW := H5.out.lt
    obtain ⟨y, c, rfl, _, _⟩ := (ownSl hG.choose_spec.1).shape
    clear hG hR4 hg4 HAL HAS HRA HBR H8 HD H2 H5 hR
    generalize w3.heap.size = sw at *
    clear HB
    have HB := HB4
    clear HB4
    go_upto_region 6 with (fail)
    have HC2 : Hid (∀ i v, [Value.int .i64 (R.2.1 : Int), .int .u64 (R.2.2 : Int)][i]? = some v → w4.cell? ⟨gr, 0 + 0 + i, none⟩ = some v) := Lib.hid (fun i v hi => by
      have h : i < 2 := (List.getElem?_eq_some_iff.1 hi).1
      rw [HR4.out.cell, show 0 + 0 + i = i by omega, ← hi]
      match i, h with
      | 0, _ => rfl
      | 1, _ => rfl)
    refine Agg.chainR 6 (by kernel_rfl) (by kernel_rfl) ?_
    simp only [List.take_succ_cons, List.take_zero, List.drop_succ_cons, List.drop_zero]
    refine Agg.chMove rfl rfl rfl rfl ?_
    refine Agg.chMove rfl rfl rfl rfl ?_
    refine Agg.chNil rfl rfl rfl rfl ?_
    refine Agg.chFA fo_Rd_0 rfl rfl rfl rfl ?_
    refine Agg.chRowAt 2 [.int .i64 (R.2.1 : Int), .int .u64 (R.2.2 : Int)] rfl (by decide +kernel) rfl rfl rfl rfl HC2.out ?_
    refine Agg.chAssign rfl rfl rfl rfl ?_
    refine Agg.chEnd ?_
    intro vs w21 hb hf
    simp only [List.reverse, List.reverseAux, Agg.Facts] at hf
    obtain _ := hf
    simp only [List.reverse, List.reverseAux, Agg.fill, List.set_cons_succ, List.set_cons_zero]
    have hG6 := HG.out.keep hb
    have h56 := H54.out.keep hb
    have hB6 := HB.out.trans (hb.mono HB.out.size)
    refine Agg.tStore 2 (cs := [.int .i64 (R.2.1 : Int), .int .u64 (R.2.2 : Int)]) h56 rfl rfl rfl rfl rfl (by decide +kernel) rfl rfl (by simp [Value.oneCell']) (fun w7 hb7 hg7 => ?_)
    refine Agg.tAssign rfl rfl rfl ?_
    simp only [Agg.ev, List.getD_cons_zero, List.getD_cons_succ, List.set_cons_succ, List.set_cons_zero]
    refine Agg.wpNil ?_
    have hG7 := (hG6.grown hg7 hsW).base (show w.heap.size ≤ sw by omega)
    have hB7 := hB6.trans (grown_below hg7 hB6.size (fun j e => by cases e; omega))
    go_wp2_with fail
    exact bodyPost_ret (results_mid (m := 2) rfl hb7 rfl (by decide +kernel) rfl) rfl ⟨_, rfl, hG7, hB7⟩
  · have hR : R = ([], 0, 0) := by have h := HRA.out; rwa [if_neg hz] at h
    subst hR
    have hzb : (r != 0) = true := bne_iff_ne.2 hz
    have h5 := H5.out
    go_wp2_with (refine Agg.gStoreB 2 [.int .i64 0, .int .u64 0] h5 rfl rfl rfl rfl rfl (by decide +kernel) rfl rfl (by simp [Value.oneCell']) (fun w14 hb14 hg14 => ?_))
    refine bodyPost_ret (results_mid (m := 2) rfl hb14 rfl (by decide +kernel) rfl) rfl ⟨_, rfl, GrpO.nil _ _, ?_⟩
    exact HB.out.trans (grown_below hg14 HB.out.size (fun j hj => by cases hj; omega))
end Go.Proofs.Ytlddjcilbpcciaa
end
