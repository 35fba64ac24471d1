/-
  DEVICES: what an op does.
-/
import Derived.Test.YtapdigcpaebjiaaDvW
import Derived.Test.YtapdigcpaebjiaaOpV
namespace Go.Proofs.Ytapdigcpaebjiaa
open Go.ChangeShapes Go.WideShapes Go.ChangeAt Go.RowKit Agg Pg Dv

theorem fo_fo_Op_0 : Agg.fieldOff Try.prog 31 0 = some 0 := by kernel_rfl
theorem fo_fo_Op_1 : Agg.fieldOff Try.prog 31 1 = some 1 := by kernel_rfl
theorem fo_fo_Op_2 : Agg.fieldOff Try.prog 31 2 = some 7 := by kernel_rfl
theorem fo_fo_Op_3 : Agg.fieldOff Try.prog 31 3 = some 8 := by kernel_rfl
def kindN (k : Int) : Nat := (k % 18446744073709551616 % 5).toNat
/-- what an op does; what of it -/
def doesP (o : OpD) (d : Dev) : Int × Dev :=
  if kindN o.kind < 2 then goesP d (putP d o.fl.page (fillB o.fl)) else if kindN o.kind = 2 then goesP d (flushP d) else if kindN o.kind = 3 then goesP d (lightP d o.n) else crashP d (o.ms.take 60)
theorem kindN_lt (k : Int) : kindN k < 5 := by unfold kindN; omega
theorem u64_wrap (k : Int) : IntKind.u64.wrap k = k % 18446744073709551616 := by simp [IntKind.wrap, IntKind.bits, IntKind.signed]
theorem kindN_eq (k : Int) : (IntKind.u64.wrap k).tmod 5 = (kindN k : Int) := by
  rw [u64_wrap, Int.tmod_eq_emod_of_nonneg (by omega)]
  unfold kindN; omega
def DevT (base : Nat) (e : Int) (d : Dev) (v : Value) (w : World) : Prop := ∃ u, v = .tuple #[u, .int .i64 e] ∧ DevO base w u d
abbrev DevV (base : Nat) (d : Dev) (v : Value) (w : World) : Prop := DevO base w v d
def DevRT (e : Int) (d : Dev) (v : Value) (w : World) : Prop := ∃ u, v = .tuple #[u, .int .i64 e] ∧ DevR w u d
abbrev DevRV (d : Dev) (v : Value) (w : World) : Prop := DevR w v d
abbrev IntV (e : Int) (v : Value) (_ : World) : Prop := v = .int .i64 e
theorem DevT.stable (base : Nat) (e : Int) (d : Dev) : Stable (DevT base e d) := fun _ _ _ ⟨u, h1, h2⟩ hb => ⟨u, h1, h2.keep hb⟩
theorem DevV.stable (base : Nat) (d : Dev) : Stable (DevV base d) := fun _ _ _ h hb => DevO.keep h hb
theorem DevRT.stable (e : Int) (d : Dev) : Stable (DevRT e d) := fun _ _ _ ⟨u, h1, h2⟩ hb => ⟨u, h1, h2.keep hb⟩
theorem DevRV.stable (d : Dev) : Stable (DevRV d) := fun _ _ _ h hb => DevR.keep h hb
theorem IntV.stable (e : Int) : Stable (IntV e) := fun _ _ _ h _ => h
theorem DevT.fst {base : Nat} {e : Int} {d : Dev} (v : Value) (w : World) (h : DevT base e d v w) : ∃ vs u, v = .tuple vs ∧ vs[0]? = some u ∧ DevV base d u w := by
  obtain ⟨u, h1, h2⟩ := h; exact ⟨_, u, h1, rfl, h2⟩
theorem DevT.snd {base : Nat} {e : Int} {d : Dev} (v : Value) (w : World) (h : DevT base e d v w) : ∃ vs u, v = .tuple vs ∧ vs[1]? = some u ∧ IntV e u w := by
  obtain ⟨u, h1, h2⟩ := h; exact ⟨_, _, h1, rfl, rfl⟩
theorem DevRT.fst {e : Int} {d : Dev} (v : Value) (w : World) (h : DevRT e d v w) : ∃ vs u, v = .tuple vs ∧ vs[0]? = some u ∧ DevRV d u w := by
  obtain ⟨u, h1, h2⟩ := h; exact ⟨_, u, h1, rfl, h2⟩
theorem DevRT.snd {e : Int} {d : Dev} (v : Value) (w : World) (h : DevRT e d v w) : ∃ vs u, v = .tuple vs ∧ vs[1]? = some u ∧ IntV e u w := by
  obtain ⟨u, h1, h2⟩ := h; exact ⟨_, _, h1, rfl, rfl⟩
def IntsV (l : List Int) (v : Value) (w : World) : Prop := Ints w v l
theorem IntsV.stable (l : List Int) : Stable (IntsV l) := fun _ _ _ h hb => SlR.keep h hb
theorem burnD_pages (d : Dev) : (burnD d).pages = d.pages := rfl
theorem burnD_cache (d : Dev) : (burnD d).cache = d.cache := rfl
theorem dev0_ok : DOk dev0 := ⟨fun b hb => absurd hb (by simp [dev0]), fun b hb => absurd hb (by simp [dev0])⟩
theorem putP_ok {d : Dev} (h : DOk d) (k : Int) {b : List Sec} (hb : BOk b) : DOk (putP d k b).2 := by
  unfold putP
  split
  · exact h
  · split
    · exact h
    · refine ⟨h.1, fun x hx => ?_⟩
      rcases List.mem_append.1 hx with hx | hx
      · exact h.2 x hx
      · rw [List.mem_singleton.1 hx]; exact hb
theorem flushP_ok {d : Dev} (h : DOk d) : DOk (flushP d).2 := by
  unfold flushP
  split
  · exact h
  · exact ⟨(settleAll_ok h.1 d.cache h.2).2, fun x hx => absurd hx (by simp)⟩
theorem lightP_ok {d : Dev} (h : DOk d) (n : Int) : DOk (lightP d n).2 := by
  unfold lightP
  split <;> exact h
theorem goesP_ok {d : Dev} (h : DOk d) {r : Int × Dev} (hr : DOk r.2) : DOk (goesP d r).2 := by
  unfold goesP
  split
  · exact dev0_ok
  · split
    · exact h
    · split
      · exact dev0_ok
      · exact hr
theorem crashP_ok {d : Dev} (h : DOk d) (ms : List Int) : DOk (crashP d ms).2 := by
  unfold crashP
  split
  · exact dev0_ok
  · split
    · exact dev0_ok
    · exact ⟨(settleBy_ok h.1 d.cache ms h.2).2, fun x hx => absurd hx (by simp)⟩
theorem doesP_ok {o : OpD} {d : Dev} (hf : o.fl.Ok) (h : DOk d) : DOk (doesP o d).2 := by
  unfold doesP
  split
  · exact goesP_ok h (putP_ok h _ (fillB_bok hf))
  · split
    · exact goesP_ok h (flushP_ok h)
    · split
      · exact goesP_ok h (lightP_ok h _)
      · exact crashP_ok h _
/-- a device that is read, while a device's variable is written -/
theorem SlR.farAt {w w' : World} {v : Value} {sz n : Nat} {cs : List Value} {g : Nat} {T : TypeId} {ds : List Value} (j : Nat) (hsz : 0 < sz) (h : SlR w v sz n cs) (H : Blk w g T ds) (hz : 0 < n → ∃ u, cs[j]? = some u ∧ ∀ i : Nat, ds[i]? ≠ some u) (hg : w.grownBy w' (some g)) : SlR w' v sz n cs := by
  rcases Nat.eq_zero_or_pos n with h0 | h0
  · subst h0
    refine ⟨h.1, ?_⟩
    rcases h.2 with h2 | ⟨x, cap, hv, h3, h4, _⟩
    · exact .inl h2
    · refine .inr ⟨x, cap, hv, h3, h4, fun i u hu => ?_⟩
      have := List.eq_nil_of_length_eq_zero (by rw [h.1]; simp : cs.length = 0)
      subst this
      cases hu
  · refine SlR.grown h hg (fun k hk => ?_)
    cases hk
    intro e
    obtain ⟨u, hu, hd⟩ := hz h0
    obtain ⟨b, o, cap, rfl, _, _, h5, _⟩ := SlR.pos h hsz h0
    have h6 := h5 j u hu
    obtain rfl : b = g := by simpa [Value.ownBlock] using e
    rw [H.cell] at h6
    exact hd _ h6
theorem blkC_head {b : List Sec} (hb : BOk b) : ∃ s : Nat, (blkC b)[0]? = some (.int .u64 (s : Int)) := by
  match b, hb.1 with
  | [s0, s1, s2, s3], _ => exact ⟨s0.1, rfl⟩
theorem DevR.far {w w' : World} {v : Value} {d : Dev} {g : Nat} {T : TypeId} {px cx : Option Addr} {pn pc cn cc : Nat} {z : Int} {q : Bool} (h : DevR w v d) (hd : DOk d) (H : Blk w g T [.slice px pn pc, .slice cx cn cc, .int .i64 z, .bool q]) (hg : w.grownBy w' (some g)) : DevR w' v d := by
  obtain ⟨x, y, cap, cm, h1, h2, h3⟩ := h
  have hno : ∀ (s : Nat) (i : Nat), [Value.slice px pn pc, .slice cx cn cc, .int .i64 z, .bool q][i]? ≠ some (.int .u64 (s : Int)) := by
    intro s i e
    have := List.mem_of_getElem? e
    simp at this
  refine ⟨x, y, cap, cm, h1, SlR.farAt 0 (by decide) h2 H (fun h0 => ?_) hg, SlR.farAt 1 (by decide) h3 H (fun h0 => ?_) hg⟩
  · obtain ⟨P, l, z, q⟩ := d
    cases P with
    | nil => simp at h0
    | cons b r =>
      have hb := hd.1 b (by simp)
      obtain ⟨s, hs⟩ := blkC_head hb
      refine ⟨_, ?_, hno s⟩
      rw [List.flatMap_cons, List.getElem?_append_left (by rw [bok_cells hb]; decide)]
      exact hs
  · obtain ⟨P, l, z, q⟩ := d
    cases l with
    | nil => simp at h0
    | cons b r =>
      have hb := hd.2 b (by simp)
      obtain ⟨s, hs⟩ := blkC_head hb
      refine ⟨_, ?_, hno s⟩
      rw [List.flatMap_cons, List.getElem?_append_left (by rw [wrC_length _ hb]; decide), wrC, List.getElem?_cons_succ]
      exact hs
set_option maxHeartbeats 4000000 in
set_option maxRecDepth 100000 in
theorem does_any (o : OpD) (mv : Value) (hf : o.fl.Ok) (P : List (List Sec)) (l : List (Int × List Sec)) (z : Int) (q : Bool) (x y : Option Addr) (cap cm : Nat) (w : World)
    (hd1 : P.length ≤ 1000000) (hd2 : l.length ≤ 1000000) (hp : Pgs w (.slice x P.length cap) P) (hv : Wrs w (.slice y l.length cm) l) (hP : ∀ b ∈ P, BOk b) (hC : ∀ x ∈ l, BOk x.2) (hm : Ints w mv o.ms) :
    Calls Try.prog 11 #[.agg (opC o mv).toArray, .agg #[.slice x P.length cap, .slice y l.length cm, .int .i64 z, .bool q]] w fun e w' => ∃ v, e = .returned (.tuple #[v, .int .i64 (doesP o ⟨P, l, z, q⟩).1]) ∧ DevO w.heap.size w' v (doesP o ⟨P, l, z, q⟩).2 ∧ Below w.heap.size w w' := by
  have HP := Lib.hid hp
  have HV := Lib.hid hv
  have HM := Lib.hid hm
  have HPB := Lib.hid hP
  have HCB := Lib.hid hC
  have HD1 := Lib.hid hd1
  have HD2 := Lib.hid hd2
  have HF := Lib.hid hf
  have HOK := Lib.hid (doesP_ok (o := o) (d := ⟨P, l, z, q⟩) hf ⟨hP, hC⟩)
  obtain ⟨g, hg⟩ : ∃ g, doesP o ⟨P, l, z, q⟩ = g := ⟨_, rfl⟩
  rw [hg] at HOK ⊢
  have HG := Lib.hid hg
  clear hp hv hP hC hd1 hd2 hm hf hg
  have HB := Lib.hid (Below.refl w.heap.size w)
  go_enter Try.func11, Try.ntmps11
  go_upto_region 1 with (fail)
  refine Agg.wp_at fun w1 hw1 => ?_
  have hb : Below w.heap.size w w1 := by rw [hw1.out]; repeat (first | exact Below.refl _ _ | refine Agg.bel_drew ?_ | refine Agg.bel_alloc ?_ _)
  replace HB := Lib.hid (HB.out.trans (hb.mono HB.out.size))
  replace HP := Lib.hid (HP.out.keep hb)
  replace HV := Lib.hid (HV.out.keep hb)
  replace HM := Lib.hid (HM.out.keep hb)
  clear hb
  have H1 : Hid (Blk w1 w.heap.size 31 (opC o mv)) := by show Blk _ _ _ _; rw [hw1.out]; exact ((Blk.new w 31 (opC o mv).toArray).al _).al _
  have H3 : Hid (Blk w1 (w.heap.size + 1) 36 [.slice x P.length cap, .slice y l.length cm, .int .i64 z, .bool q]) := by show Blk _ _ _ _; rw [hw1.out]; exact (Blk.newAt (w.alloc _) 36 #[.slice x P.length cap, .slice y l.length cm, .int .i64 z, .bool q] _ (by simp)).al _
  have H4 : Hid (Blk w1 (w.heap.size + 2) 36 [.slice none 0 0, .slice none 0 0, .int .i64 0, .bool false]) := by show Blk _ _ _ _; rw [hw1.out]; exact Blk.newAt ((w.alloc _).alloc _) 36 #[.slice none 0 0, .slice none 0 0, .int .i64 0, .bool false] _ (by simp)
  clear hw1
  have hk0 := H1.out.cell 0
  rw [opC_kind] at hk0
  have hkn := kindN_lt o.kind
  have HFL : Hid (∀ i v, (flC o.fl)[i]? = some v → w1.cell? ⟨w.heap.size, 0 + 1 + i, none⟩ = some v) := Lib.hid (fun i v hi => by
    rw [H1.out.cell, Nat.zero_add, opC_fl HF.out mv i (by have := (List.getElem?_eq_some_iff.1 hi).1; rw [flC_length HF.out] at this; exact this)]; exact hi)
  have HPG : Hid (w1.cell? ⟨w.heap.size, 0 + 1 + 0, none⟩ = some (.int .i64 o.fl.page)) := Lib.hid (by rw [H1.out.cell]; exact opC_page mv)
  go_upto_region 2 with (fail)
  rw [kindN_eq]
  obtain ⟨kn, hkn2⟩ : ∃ k, kindN o.kind = k := ⟨_, rfl⟩
  rw [hkn2] at hkn ⊢
  have hg := HG.out
  rw [doesP, hkn2] at hg
  clear hkn2 hk0 HG
  rcases (by omega : kn = 0 ∨ kn = 1 ∨ kn = 2 ∨ kn = 3 ∨ kn = 4) with rfl | rfl | rfl | rfl | rfl
  · rw [if_pos (by decide)] at hg
    go_upto_region 4 with (fail)
    refine Agg.chainR 10 (by kernel_rfl) (by kernel_rfl) ?_
    simp only [List.take_succ_cons, List.take_zero, List.drop_succ_cons, List.drop_zero]
    refine Agg.chRowB 4 H3.out rfl (by decide +kernel) rfl rfl rfl rfl ?_
    refine Agg.chFA fo_fo_Op_1 rfl rfl rfl rfl ?_
    refine Agg.chFA fo_fo_Fl_0 rfl rfl rfl rfl ?_
    refine Agg.chLoad rfl rfl rfl rfl (by decide +kernel) HPG.out ?_
    refine Agg.chFA fo_fo_Op_1 rfl rfl rfl rfl ?_
    refine Agg.chRowAt 6 (flC o.fl) (flC_length HF.out) (by decide +kernel) rfl rfl rfl rfl HFL.out ?_
    refine Agg.chCall Try.func18 rfl (by kernel_rfl) rfl rfl rfl rfl (fun W hb => block_any o.fl HF.out W) ?_
    refine Agg.chCallG Try.func25 rfl (by kernel_rfl) (DevT w1.heap.size g.1 g.2) (DevT.stable _ _ _) rfl rfl rfl rfl (fun W hb => Calls.mono (put_any P l z q x y cap cm o.fl.page (fillB o.fl) (fillB_bok HF.out) W HD1.out HD2.out (HP.out.keep hb) (HV.out.keep hb) HPB.out HCB.out) (by rw [hg]; rintro e w2 ⟨v, rfl, h, h2⟩; exact ⟨_, rfl, ⟨v, rfl, h.base hb.size⟩, h2⟩)) ?_
    refine Agg.chExtractO 7 (DevV.stable _ _) DevT.fst rfl rfl rfl rfl rfl rfl ?_
    refine Agg.chExtractO 7 (IntV.stable _) DevT.snd rfl rfl rfl rfl rfl rfl ?_
    refine Agg.chEnd ?_
    intro vs w2 hb hf
    simp only [List.reverse, List.reverseAux, Agg.Facts] at hf
    obtain ⟨_, ⟨p8, c8, hv8, hp8, hc8⟩, hv9, _⟩ := hf
    simp only [List.reverse, List.reverseAux, Agg.fill, List.set_cons_succ, List.set_cons_zero, hv8, hv9]
    obtain ⟨px, pc, rfl, _, _⟩ := (ownSl hp8).shape
    obtain ⟨cx, cc, rfl, _, _⟩ := (ownSl hc8).shape
    have h4 := H4.out.keep hb
    have hbA := HB.out.trans (hb.mono HB.out.size)
    have l4 := H4.out.lt
    refine Agg.tStore 4 (cs := [.slice px g.2.pages.length pc, .slice cx g.2.cache.length cc, .int .i64 g.2.fuse, .bool g.2.off]) h4 rfl rfl rfl rfl rfl (by decide +kernel) rfl rfl (by simp [Value.oneCell']) (fun w16 hb16 hg16 => ?_)
    refine Agg.tAssign rfl rfl rfl ?_
    simp only [Agg.ev, List.getD_cons_zero, List.getD_cons_succ, List.set_cons_succ, List.set_cons_zero]
    refine Agg.wpNil ?_
    have hbC := hbA.trans (grown_below hg16 hbA.size (fun j hj => by cases hj; omega))
    go_wp2_with fail
    refine bodyPost_ret (results_row2 (m := 4) rfl hb16 rfl (by decide +kernel) rfl) rfl ⟨_, rfl, ⟨_, _, rfl, own_base (hp8.kept hg16 (own_off hp8 l4)) HB.out.size, own_base (hc8.kept hg16 (own_off hc8 l4)) HB.out.size⟩, hbC⟩
  · rw [if_pos (by decide)] at hg
    go_upto_region 4 with (fail)
    refine Agg.chainR 10 (by kernel_rfl) (by kernel_rfl) ?_
    simp only [List.take_succ_cons, List.take_zero, List.drop_succ_cons, List.drop_zero]
    refine Agg.chRowB 4 H3.out rfl (by decide +kernel) rfl rfl rfl rfl ?_
    refine Agg.chFA fo_fo_Op_1 rfl rfl rfl rfl ?_
    refine Agg.chFA fo_fo_Fl_0 rfl rfl rfl rfl ?_
    refine Agg.chLoad rfl rfl rfl rfl (by decide +kernel) HPG.out ?_
    refine Agg.chFA fo_fo_Op_1 rfl rfl rfl rfl ?_
    refine Agg.chRowAt 6 (flC o.fl) (flC_length HF.out) (by decide +kernel) rfl rfl rfl rfl HFL.out ?_
    refine Agg.chCall Try.func18 rfl (by kernel_rfl) rfl rfl rfl rfl (fun W hb => block_any o.fl HF.out W) ?_
    refine Agg.chCallG Try.func25 rfl (by kernel_rfl) (DevT w1.heap.size g.1 g.2) (DevT.stable _ _ _) rfl rfl rfl rfl (fun W hb => Calls.mono (put_any P l z q x y cap cm o.fl.page (fillB o.fl) (fillB_bok HF.out) W HD1.out HD2.out (HP.out.keep hb) (HV.out.keep hb) HPB.out HCB.out) (by rw [hg]; rintro e w2 ⟨v, rfl, h, h2⟩; exact ⟨_, rfl, ⟨v, rfl, h.base hb.size⟩, h2⟩)) ?_
    refine Agg.chExtractO 7 (DevV.stable _ _) DevT.fst rfl rfl rfl rfl rfl rfl ?_
    refine Agg.chExtractO 7 (IntV.stable _) DevT.snd rfl rfl rfl rfl rfl rfl ?_
    refine Agg.chEnd ?_
    intro vs w3 hb hf
    simp only [List.reverse, List.reverseAux, Agg.Facts] at hf
    obtain ⟨_, ⟨p8, c8, hv8, hp8, hc8⟩, hv9, _⟩ := hf
    simp only [List.reverse, List.reverseAux, Agg.fill, List.set_cons_succ, List.set_cons_zero, hv8, hv9]
    obtain ⟨px, pc, rfl, _, _⟩ := (ownSl hp8).shape
    obtain ⟨cx, cc, rfl, _, _⟩ := (ownSl hc8).shape
    have h4 := H4.out.keep hb
    have hbA := HB.out.trans (hb.mono HB.out.size)
    have l4 := H4.out.lt
    refine Agg.tStore 4 (cs := [.slice px g.2.pages.length pc, .slice cx g.2.cache.length cc, .int .i64 g.2.fuse, .bool g.2.off]) h4 rfl rfl rfl rfl rfl (by decide +kernel) rfl rfl (by simp [Value.oneCell']) (fun w16 hb16 hg16 => ?_)
    refine Agg.tAssign rfl rfl rfl ?_
    simp only [Agg.ev, List.getD_cons_zero, List.getD_cons_succ, List.set_cons_succ, List.set_cons_zero]
    refine Agg.wpNil ?_
    have hbC := hbA.trans (grown_below hg16 hbA.size (fun j hj => by cases hj; omega))
    go_wp2_with fail
    refine bodyPost_ret (results_row2 (m := 4) rfl hb16 rfl (by decide +kernel) rfl) rfl ⟨_, rfl, ⟨_, _, rfl, own_base (hp8.kept hg16 (own_off hp8 l4)) HB.out.size, own_base (hc8.kept hg16 (own_off hc8 l4)) HB.out.size⟩, hbC⟩
  · rw [if_neg (by decide), if_pos rfl] at hg
    have l4 := H4.out.lt
    have hsz := HB.out.size
    have xH3_0 := H3.out.cell 0
    have xH3_1 := H3.out.cell 1
    have xH3_2 := H3.out.cell 2
    have xH3_3 := H3.out.cell 3
    have lH3 := H3.out.lt
    simp only [List.getElem?_cons_zero, List.getElem?_cons_succ] at xH3_0 xH3_1 xH3_2 xH3_3
    go_wp2_with fail
    refine (flush_any P l z q x y cap cm w1 HD1.out HD2.out HP.out HV.out HPB.out HCB.out).mono ?_
    rw [hg]
    rintro e w9 ⟨v, rfl, hdv, hb⟩
    obtain ⟨p8, c8, rfl, hp8, hc8⟩ := hdv
    obtain ⟨px, pc, rfl, _, _⟩ := (ownSl hp8).shape
    obtain ⟨cx, cc, rfl, _, _⟩ := (ownSl hc8).shape
    have h4 := H4.out.keep hb
    have hbA := HB.out.trans (hb.mono HB.out.size)
    go_wp2_with (refine Agg.gStoreB 4 [.slice px g.2.pages.length pc, .slice cx g.2.cache.length cc, .int .i64 g.2.fuse, .bool g.2.off] h4 rfl rfl rfl rfl rfl (by decide +kernel) rfl rfl (by simp [Value.oneCell']) (fun w16 hb16 hg16 => ?_))
    have hbC := hbA.trans (grown_below hg16 hbA.size (fun j hj => by cases hj; omega))
    refine bodyPost_ret (results_row2 (m := 4) rfl hb16 rfl (by decide +kernel) rfl) rfl ⟨_, rfl, ⟨_, _, rfl, own_base (hp8.kept hg16 (own_off hp8 l4)) HB.out.size, own_base (hc8.kept hg16 (own_off hc8 l4)) HB.out.size⟩, hbC⟩
  · rw [if_neg (by decide), if_neg (by decide), if_pos rfl] at hg
    have hn7 := H1.out.cell 7
    rw [opC_n HF.out] at hn7
    have l4 := H4.out.lt
    have hsz := HB.out.size
    have xH3_0 := H3.out.cell 0
    have xH3_1 := H3.out.cell 1
    have xH3_2 := H3.out.cell 2
    have xH3_3 := H3.out.cell 3
    have lH3 := H3.out.lt
    simp only [List.getElem?_cons_zero, List.getElem?_cons_succ] at xH3_0 xH3_1 xH3_2 xH3_3
    go_wp2_with fail
    refine (light_any P l z q x y cap cm o.n w1 HD1.out HD2.out HP.out HV.out HPB.out HCB.out).mono ?_
    rw [hg]
    rintro e w9 ⟨v, rfl, hdv, hb⟩
    obtain ⟨p8, c8, rfl, hp8, hc8⟩ := hdv
    obtain ⟨px, pc, rfl, _, _⟩ := (ownSl hp8).shape
    obtain ⟨cx, cc, rfl, _, _⟩ := (ownSl hc8).shape
    have h4 := H4.out.keep hb
    have hbA := HB.out.trans (hb.mono HB.out.size)
    go_wp2_with (refine Agg.gStoreB 4 [.slice px g.2.pages.length pc, .slice cx g.2.cache.length cc, .int .i64 g.2.fuse, .bool g.2.off] h4 rfl rfl rfl rfl rfl (by decide +kernel) rfl rfl (by simp [Value.oneCell']) (fun w16 hb16 hg16 => ?_))
    have hbC := hbA.trans (grown_below hg16 hbA.size (fun j hj => by cases hj; omega))
    refine bodyPost_ret (results_row2 (m := 4) rfl hb16 rfl (by decide +kernel) rfl) rfl ⟨_, rfl, ⟨_, _, rfl, own_base (hp8.kept hg16 (own_off hp8 l4)) HB.out.size, own_base (hc8.kept hg16 (own_off hc8 l4)) HB.out.size⟩, hbC⟩
  · rw [if_neg (by decide), if_neg (by decide), if_neg (by decide)] at hg
    go_upto_region 9 with (fail)
    refine Agg.chainR 6 (by kernel_rfl) (by kernel_rfl) ?_
    simp only [List.take_succ_cons, List.take_zero, List.drop_succ_cons, List.drop_zero]
    refine Agg.chRowB 4 H3.out rfl (by decide +kernel) rfl rfl rfl rfl ?_
    refine Agg.chRowB 9 H1.out (opC_length HF.out mv) (by decide +kernel) rfl rfl rfl rfl ?_
    refine Agg.chCallG Try.func26 rfl (by kernel_rfl) (IntsV (o.ms.take 60)) (IntsV.stable _) rfl rfl rfl rfl (fun W hb => masks_any o mv HF.out W (HM.out.keep hb)) ?_
    refine Agg.chCall_po Try.func22 rfl (by kernel_rfl) (.op (DevT w1.heap.size g.1 g.2)) (DevT.stable _ _ _) 2 rfl rfl rfl rfl rfl rfl rfl (fun u W hb hu => Calls.mono (crash_any P l z q x y cap cm (o.ms.take 60) u W HD1.out HD2.out (by rw [List.length_take]; omega) (HP.out.keep hb) (HV.out.keep hb) HPB.out HCB.out hu) (by rw [hg]; rintro e w2 ⟨v, rfl, h, h2⟩; exact ⟨_, rfl, ⟨v, rfl, h.base hb.size⟩, h2⟩)) ?_
    refine Agg.chExtractO 3 (DevV.stable _ _) DevT.fst rfl rfl rfl rfl rfl rfl ?_
    refine Agg.chExtractO 3 (IntV.stable _) DevT.snd rfl rfl rfl rfl rfl rfl ?_
    refine Agg.chEnd ?_
    intro vs w4 hb hf
    simp only [List.reverse, List.reverseAux, Agg.Facts] at hf
    obtain ⟨_, _, ⟨p8, c8, hv8, hp8, hc8⟩, hv9, _⟩ := hf
    simp only [List.reverse, List.reverseAux, Agg.fill, List.set_cons_succ, List.set_cons_zero, hv8, hv9]
    obtain ⟨px, pc, rfl, _, _⟩ := (ownSl hp8).shape
    obtain ⟨cx, cc, rfl, _, _⟩ := (ownSl hc8).shape
    have h4 := H4.out.keep hb
    have hbA := HB.out.trans (hb.mono HB.out.size)
    have l4 := H4.out.lt
    refine Agg.tStore 4 (cs := [.slice px g.2.pages.length pc, .slice cx g.2.cache.length cc, .int .i64 g.2.fuse, .bool g.2.off]) h4 rfl rfl rfl rfl rfl (by decide +kernel) rfl rfl (by simp [Value.oneCell']) (fun w16 hb16 hg16 => ?_)
    refine Agg.tAssign rfl rfl rfl ?_
    simp only [Agg.ev, List.getD_cons_zero, List.getD_cons_succ, List.set_cons_succ, List.set_cons_zero]
    refine Agg.wpNil ?_
    have hbC := hbA.trans (grown_below hg16 hbA.size (fun j hj => by cases hj; omega))
    go_wp2_with fail
    refine bodyPost_ret (results_row2 (m := 4) rfl hb16 rfl (by decide +kernel) rfl) rfl ⟨_, rfl, ⟨_, _, rfl, own_base (hp8.kept hg16 (own_off hp8 l4)) HB.out.size, own_base (hc8.kept hg16 (own_off hc8 l4)) HB.out.size⟩, hbC⟩
end Go.Proofs.Ytapdigcpaebjiaa
