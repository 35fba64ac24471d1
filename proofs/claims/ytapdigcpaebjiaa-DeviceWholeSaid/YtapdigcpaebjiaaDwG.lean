/-
  THE WALK OF LAYER 16's STATEMENT DeviceWhole.
-/
import Derived.Test.YtapdigcpaebjiaaDwB
import Derived.Test.YtapdigcpaebjiaaDwC
import Derived.Test.YtapdigcpaebjiaaDwP
import Derived.Deep.CutBlock
namespace Go.Proofs.Ytapdigcpaebjiaa
open Go.ChangeShapes Go.WideShapes Go.ChangeAt Go.RowKit Agg Pg Dv

set_option maxRecDepth 100000 in
theorem flatSec : Flat Try.prog 4 44 ksSec := ⟨by kernel_rfl, by kernel_rfl, by kernel_rfl, by kernel_rfl, by decide, by kernel_rfl⟩
def SOk (s : Sec) : Prop := s.2.length = 32 ∧ s.1 < 18446744073709551616
theorem sec_neq (s : Sec) (h : SOk s) (w : World) : (binOp .neq 44 (.agg (secC s).toArray) (.agg (secC s).toArray)).run Try.prog w = .ok (.bool false) w :=
  flatSec.neq (fits_sec s h.1 h.2) (fits_sec s h.1 h.2) true (by simp) w
/-- the mask of a write -/
def ownAt (ms : List Int) (i : Nat) : Int := if h : i < ms.length then ms[i] % 16 else 0
def ownM (ms : List Int) (n : Nat) : List Int := (List.range n).map (ownAt ms)
theorem ownM_length (ms : List Int) (n : Nat) : (ownM ms n).length = n := by simp [ownM]
theorem ownM_succ (ms : List Int) (n : Nat) : ownM ms (n + 1) = ownM ms n ++ [ownAt ms n] := by simp [ownM, List.range_succ]
theorem ownM_at (ms : List Int) (n i : Nat) (h : i < n) : (ownM ms n)[i]'(by rw [ownM_length]; exact h) = ownAt ms i := by simp [ownM]
theorem ownAt_range (ms : List Int) (i : Nat) : 0 ≤ ownAt ms i ∧ ownAt ms i < 16 := by
  unfold ownAt; split <;> omega
theorem ownM_ok (ms : List Int) (n : Nat) : masksB (ownM ms n) = true := by
  unfold masksB
  rw [List.all_eq_true]
  intro x hx
  obtain ⟨i, _, rfl⟩ := List.mem_map.1 hx
  have := ownAt_range ms i
  simp; omega
theorem own_wrap (z : Int) : wrap64 ((IntKind.u64.wrap z).tmod 16) = z % 16 := by
  rw [u64_wrap, Int.tmod_eq_emod_of_nonneg (by omega)]
  unfold wrap64; omega
theorem iC_append (a b : List Int) : iC (a ++ b) = iC a ++ iC b := List.map_append
theorem all15_ok (n : Nat) : masksB (List.replicate n 15) = true := by
  unfold masksB
  rw [List.all_eq_true]
  intro x hx
  rw [List.eq_of_mem_replicate hx]; decide
theorem DevR.pgs {w : World} {d : Dev} {p c f o : Value} (h : DevR w (.agg #[p, c, f, o]) d) : Pgs w p d.pages ∧ Wrs w c d.cache := by
  obtain ⟨x, y, cap, cm, h1, h2, h3⟩ := h
  simp only [Value.agg.injEq, Array.mk.injEq, List.cons.injEq, and_true] at h1
  obtain ⟨rfl, rfl, _, _⟩ := h1
  exact ⟨h2, h3⟩
theorem sec_of {b : List Sec} (h : BOk b) (k : Nat) (hk : k < b.length) : ((blkC b).drop (k * 33)).take 33 = secC b[k] := by
  have := blkC_sec b h.len k hk []
  simpa using this
theorem sec_at {b : List Sec} (h : BOk b) (k : Nat) (hk : k < b.length) (j : Nat) (v : Value) (hv : (secC b[k])[j]? = some v) : (blkC b)[k * 33 + j]? = some v := by
  have hj : j < 33 := by
    have := (List.getElem?_eq_some_iff.1 hv).1
    rwa [secC_length _ (h.2 _ (List.getElem_mem hk)).1] at this
  have := blkC_cell b h.len k hk [] j hj
  rw [List.append_nil] at this
  rw [this]; exact hv
/-- rows of numbers that lie apart -/
def ApO (a b : Value) : Prop := ∀ k, a.ownBlock = some k → b.ownBlock ≠ some k
theorem ApO.other {a b : Value} (h : ApO a b) : b.ownBlock = none ∨ b.ownBlock ≠ a.ownBlock := by
  cases hb : b.ownBlock with
  | none => exact .inl rfl
  | some k =>
    refine .inr (fun e => ?_)
    exact h k e.symm hb
theorem crashP_own {d : Dev} (h : rightD d = true) {ms : List Int} (hm : masksB ms = true) : crashP d ms = (0, ⟨settleBy d.pages d.cache ms, [], -1, false⟩) := by
  rw [crashP, if_neg (by rw [h]; decide), if_neg (by rw [hm]; decide)]
theorem flush_lit {d : Dev} (h : rightD d = true) : goesP { d with fuse := -1, off := false } (flushP { d with fuse := -1, off := false }) = (0, ⟨settleAll d.pages d.cache, [], -1, false⟩) := by
  obtain ⟨h1, h2, h3, h4, h5, h6⟩ := right_six h
  have hr : rightD { d with fuse := -1, off := false } = true := right_of h1 h2 (show (-1 : Int) ≤ -1 by decide) (show (-1 : Int) ≤ 10000 by decide) (fun e => absurd (show false = true from e) (by decide)) h6
  have e : flushP { d with fuse := -1, off := false } = (0, ⟨settleAll d.pages d.cache, [], -1, false⟩) := by
    simp [flushP, burnD, burnF]
  rw [e, goesP_on hr rfl (.inl rfl)]
theorem sec_bok {b : List Sec} (h : BOk b) (k : Nat) (hk : k < b.length) : SOk b[k] := h.2 _ (List.getElem_mem hk)
theorem wantS_ok (k p : Nat) (hk : k < 4) {s : Sec} (hs : SOk s) (l : List (Int × List Sec)) (ms : List Int) (hl : ∀ x ∈ l, BOk x.2) : SOk (wantS k p s l ms) := by
  induction l generalizing s ms with
  | nil => rw [wantS_nil]; exact hs
  | cons x l ih =>
    cases ms with
    | nil => exact hs
    | cons m ms =>
      refine ih ?_ ms (fun y hy => hl y (by simp [hy]))
      split
      · have hb := hl x (by simp)
        rw [getD_mem k (by rw [hb.1]; exact hk)]
        exact sec_bok hb k _
      · exact hs
set_option maxHeartbeats 8000000 in
set_option maxRecDepth 100000 in
theorem whole_walk (x : LaidD) (fv cv : Value) (ms : List Int) (sx : Option Addr) (m cap : Nat) (w : World) (hx : LaidOk w x fv cv) (hm : Ints w (.slice sx m cap) ms) :
    Calls Try.prog 7 #[.agg (laidC x fv cv).toArray, .slice sx m cap] w fun e w' => e = .returned (.bool true) ∧ Below w.heap.size w w' := by
  obtain ⟨_, _, hlx, hl1, hl2⟩ := hm.shape
  cases hlx
  have HM := Lib.hid hm
  have HMN : Hid ((ms.length : Int) ≤ 9223372036854775807) := Lib.hid (by unfold maxLen at hl2; omega)
  have HX := Lib.hid hx
  have HGD := Lib.hid (laid_good hx)
  have HFEW := Lib.hid (laid_few x)
  have HC6 : Hid ((laidD x).cache.length ≤ 1000000) := Lib.hid (Nat.le_trans (laid_few x) (by decide))
  obtain ⟨d, hd⟩ : ∃ d, laidD x = d := ⟨_, rfl⟩
  have HDV : Hid (∀ W, LaidOk W x fv cv → Calls Try.prog 10 #[.agg (laidC x fv cv).toArray] W fun e w' => ∃ v, e = .returned v ∧ DevRV d v w' ∧ Below W.heap.size W w') := Lib.hid (fun W h => by have := device_RR h; rwa [hd] at this)
  rw [hd] at HGD HFEW HC6
  have HLC : Hid ((laidC x fv cv).length = 5) := Lib.hid rfl
  obtain ⟨rd, hrd⟩ : ∃ b, rightD d = b := ⟨_, rfl⟩
  have HRD := Lib.hid hrd
  clear hx hm hd hrd hl1 hl2
  have HB := Lib.hid (Below.refl w.heap.size w)
  go_enter Try.func7, Try.ntmps7
  go_upto_region 1 with (fail)
  refine Agg.wp_at fun w1 hw1 => ?_
  have hb : Below w.heap.size w w1 := by rw [hw1.out]; repeat (first | exact Below.refl _ _ | refine Agg.bel_drew ?_ | refine Agg.bel_alloc ?_ _)
  replace HB := Lib.hid (HB.out.trans (hb.mono HB.out.size))
  replace HX := Lib.hid (HX.out.keep hb)
  replace HM := Lib.hid (HM.out.keep hb)
  clear hb
  have H1 : Hid (Blk w1 w.heap.size 24 (laidC x fv cv)) := by show Blk _ _ _ _; rw [hw1.out]; exact Blk.new w 24 (laidC x fv cv).toArray
  clear hw1
  go_wp2_with fail
  refine (wakes_any w1).mono ?_
  rintro e w2 ⟨rfl, hb⟩
  replace HB := Lib.hid (HB.out.trans (hb.mono HB.out.size))
  replace HX := Lib.hid (HX.out.keep hb)
  replace HM := Lib.hid (HM.out.keep hb)
  replace H1 := Lib.hid (H1.out.keep hb)
  clear hb
  have h1 := H1.out
  go_wp2_with (refine Agg.gLoadB 5 h1 HLC.out rfl rfl rfl (by decide +kernel) ?_; simp only [Act.put, List.setIfInBounds_toArray, List.set_cons_succ, List.set_cons_zero])
  clear h1
  refine (HDV.out w2 HX.out).mono ?_
  rintro e w3 ⟨u, rfl, hu, hb⟩
  replace HB := Lib.hid (HB.out.trans (hb.mono HB.out.size))
  replace HX := Lib.hid (HX.out.keep hb)
  replace HM := Lib.hid (HM.out.keep hb)
  replace H1 := Lib.hid (H1.out.keep hb)
  clear hb
  have HU := Lib.hid hu
  obtain ⟨px, pc, cx, cc, rfl⟩ := DevR.shape HU.out
  clear hu HX H1 HDV HLC
  go_upto_region 4 with (fail)
  have HB0 := HB.out.size
  refine Agg.wp_at fun w4 hw4 => ?_
  have hb : Below w3.heap.size w3 w4 := by rw [hw4.out]; repeat (first | exact Below.refl _ _ | refine Agg.bel_drew ?_ | refine Agg.bel_alloc ?_ _)
  replace HB := Lib.hid (HB.out.trans (hb.mono HB.out.size))
  replace HM := Lib.hid (HM.out.keep hb)
  replace HU := Lib.hid (HU.out.keep hb)
  clear hb
  have H5 : Hid (Blk w4 w3.heap.size 36 [.slice px d.pages.length pc, .slice cx d.cache.length cc, .int .i64 d.fuse, .bool d.off]) := by show Blk _ _ _ _; rw [hw4.out]; exact Blk.new w3 36 #[.slice px d.pages.length pc, .slice cx d.cache.length cc, .int .i64 d.fuse, .bool d.off]
  clear hw4
  have H5G : Hid (w.heap.size ≤ w3.heap.size) := Lib.hid HB0
  clear HB0
  generalize w3.heap.size = g5 at *
  have h5 := H5.out
  go_wp2_with (refine Agg.gLoadB 4 h5 rfl rfl rfl rfl (by decide +kernel) ?_; simp only [Act.put, List.setIfInBounds_toArray, List.set_cons_succ, List.set_cons_zero])
  clear h5
  refine (check_R HGD.out HU.out).mono ?_
  rintro e w5 ⟨rfl, hb⟩
  replace HB := Lib.hid (HB.out.trans (hb.mono HB.out.size))
  replace HM := Lib.hid (HM.out.keep hb)
  replace HU := Lib.hid (HU.out.keep hb)
  replace H5 := Lib.hid (H5.out.keep hb)
  clear hb
  rw [HRD.out]
  cases rd
  · simp only [Bool.false_eq_true, if_false]
    have h5 := H5.out
    go_wp2_with (refine Agg.gLoadB 4 h5 rfl rfl rfl rfl (by decide +kernel) ?_; simp only [Act.put, List.setIfInBounds_toArray, List.set_cons_succ, List.set_cons_zero])
    clear h5
    have hcr : crashP d [] = (260, dev0) := by rw [crashP, if_pos HRD.out]
    have HCR := Lib.hid hcr
    clear hcr
    refine (crash_R HGD.out HC6.out HU.out (ms := []) (by decide) (SlR.nil w5 1)).mono ?_
    rintro e w6 ⟨un, rfl, hn, hb⟩
    replace HB := Lib.hid (HB.out.trans (hb.mono HB.out.size))
    replace HM := Lib.hid (HM.out.keep hb)
    replace HU := Lib.hid (HU.out.keep hb)
    replace H5 := Lib.hid (H5.out.keep hb)
    clear hb
    rw [HCR.out]
    rw [HCR.out] at hn
    obtain ⟨q1, q2, q3, q4, rfl⟩ := DevR.shape hn.read
    clear hn
    go_wp2_with fail
    go_ret
    exact ⟨rfl, Agg.bel_alloc HB.out _⟩
  · simp only [if_true]
    obtain ⟨W0, hW0⟩ : ∃ x, x = w5 := ⟨_, rfl⟩
    have HBA : Hid (Below w.heap.size w W0) := Lib.hid (by rw [hW0]; exact HB.out)
    have HMA : Hid (Ints W0 (.slice sx ms.length cap) ms) := Lib.hid (by rw [hW0]; exact HM.out)
    have HUA : Hid (DevR W0 (.agg #[.slice px d.pages.length pc, .slice cx d.cache.length cc, .int .i64 d.fuse, .bool d.off]) d) := Lib.hid (by rw [hW0]; exact HU.out)
    have H5A : Hid (Blk W0 g5 36 [.slice px d.pages.length pc, .slice cx d.cache.length cc, .int .i64 d.fuse, .bool d.off]) := Lib.hid (by rw [hW0]; exact H5.out)
    have HFR : Hid (From W0 w5) := Lib.hid (by rw [hW0]; exact Below.refl _ _)
    clear hW0
    have xH5_0 := H5.out.cell 0
    have xH5_1 := H5.out.cell 1
    have xH5_2 := H5.out.cell 2
    have xH5_3 := H5.out.cell 3
    have lH5 := H5.out.lt
    simp only [List.getElem?_cons_zero, List.getElem?_cons_succ] at xH5_0 xH5_1 xH5_2 xH5_3
    go_wp2_with fail
    clear xH5_0 xH5_1 xH5_2 xH5_3 lH5
    clear H5 HU HM HB
    go_loopw [40, 8, 9] (fun i u v wr => ∃ k : Nat, k ≤ d.cache.length ∧ i = .int .i64 k ∧ From W0 wr ∧ wr.ownsRow W0.heap.size 3 1 u k (iC (ownM ms k)) ∧ wr.ownsRow W0.heap.size 3 1 v k (iC (List.replicate k 15)) ∧ ApO u v) (fun i _ _ _ => d.cache.length - (intOf i).toNat)
    case atStart => exact ⟨0, by omega, rfl, HFR.out, World.ownsRow_nil _ _ _ _, World.ownsRow_nil _ _ _ _, fun k h => by cases h⟩
    case round =>
      obtain ⟨k, hk, rfl, hfr, ho1, ho2, hap⟩ := hrel
      clear HFR
      have HFR := Lib.hid hfr
      have HO1 := Lib.hid ho1
      have HO2 := Lib.hid ho2
      have HAP := Lib.hid hap
      obtain ⟨y8, c8, rfl, _, _⟩ := (ownSl ho1).shape
      obtain ⟨y9, c9, rfl, _, _⟩ := (ownSl ho2).shape
      clear hfr ho1 ho2 hap
      obtain ⟨wA, hwA⟩ : ∃ x, x = wr := ⟨_, rfl⟩
      subst hwA
      by_cases hlt : k < d.cache.length
      · have hfew := HFEW.out
        obtain ⟨mz, hmz⟩ : ∃ z, ownAt ms k = z := ⟨_, rfl⟩
        have HMZ := Lib.hid hmz
        clear hmz
        go_upto_if 46 with (fail)
        go_cut [11] from 47 to 53 (fun v wx => v = .int .i64 mz ∧ wx = wA)
        case first =>
          have hmn := HMN.out
          by_cases hkm : k < ms.length
          · obtain ⟨b, o, cap', hve, _, _, hcm, _⟩ := SlR.pos (SlR.keep HMA.out HFR.out) (by decide) (by omega)
            simp only [Value.slice.injEq, true_and] at hve
            obtain ⟨rfl, rfl⟩ := hve
            have hcs : wA.cell? ⟨b, o + k, none⟩ = some (.int .i64 ms[k]) := hcm k _ (by simp [iC, List.getElem?_eq_getElem hkm])
            have hz : wrap64 ((IntKind.u64.wrap ms[k]).tmod 16) = mz := by rw [own_wrap, ← HMZ.out, ownAt, dif_pos hkm]
            have HZ := Lib.hid hz
            clear hz hcm
            generalize ms[k] = mk at *
            go_wp2_with fail
            go_meet
            exact ⟨by rw [HZ.out], rfl⟩
          · have hz : mz = 0 := by rw [← HMZ.out, ownAt, dif_neg hkm]
            subst hz
            go_wp2_with fail
            go_meet
            exact ⟨rfl, rfl⟩
        case rest =>
          obtain ⟨rfl, hwx⟩ := hcut
          replace hwx := hwx.symm
          subst hwx
          clear HMN
          have hb1 : Below wA.heap.size wA (wA.alloc (.cells #[.int .i64 mz] 3)) := (Below.refl _ _).alloc (Nat.le_refl _) _
          have hob := own_keep HO1.out hb1
          have hob9 := own_keep HO2.out hb1
          have hsl := sl_new wA #[.int .i64 mz] 3 1 1 rfl (by decide)
          have hsz := HFR.out.size
          have hl8 := HO1.out.lt
          have hl9 := HO2.out.lt
          have hf1 : From W0 (wA.alloc (.cells #[.int .i64 mz] 3)) := HFR.out.trans (hb1.mono hsz)
          go_wp2_with (first
            | (refine Agg.append2 tiInt _ _ rfl rfl W0.heap.size (v := .slice y8 k c8) rfl hob rfl hsl (by simp [Value.oneCell']) (by unfold maxLen; omega) (by omega) (by simp only [World.size_alloc]; omega) ?_
               intro v2 w2 ho2 hg2 hwh2
               have hk9 := hob9.kept hg2 HAP.out.other
               have hob9b := own_keep hk9 ((Below.refl _ w2).alloc (Nat.le_refl _) (.cells #[.int .i64 15] 3))
               have hsl2 := sl_new w2 #[.int .i64 15] 3 1 1 rfl (by decide)
               have hf2 : From W0 w2 := hf1.trans (grown_below hg2 (hf1.size) (fun j hj => (hl8 j hj).1))
               clear hob9 hk9 hob hsl
               simp only [Act.put, List.setIfInBounds_toArray, List.set_cons_succ, List.set_cons_zero])
            | (refine Agg.append2 tiInt _ _ rfl rfl W0.heap.size (v := .slice y9 k c9) rfl hob9b rfl hsl2 (by simp [Value.oneCell']) (by unfold maxLen; omega) (by omega) (by simp only [World.size_alloc]; have := hf2.size; omega) ?_
               intro v3 w3 ho3 hg3 hwh3
               simp only [Act.put, List.setIfInBounds_toArray, List.set_cons_succ, List.set_cons_zero]))
          have hf2b : From W0 (w2.alloc (.cells #[.int .i64 15] 3)) := hf2.trans (((Below.refl _ w2).alloc (Nat.le_refl _) (.cells #[.int .i64 15] 3)).mono hf2.size)
          have hf3 : From W0 w3 := hf2b.trans (grown_below hg3 hf2b.size (fun j hj => (hl9 j hj).1))
          have hap8 : ApO v2 (.slice y9 k c9) := fun j hj e => by
            rcases hwh2 with h | h
            · exact HAP.out j (by rw [← h]; exact hj) e
            · rw [h] at hj
              have := (hl9 j e).2
              simp at hj; omega
          have hl2 := ho2.lt
          have hap9 : ApO v2 v3 := fun j hj e => by
            rcases hwh3 with h | h
            · exact hap8 j hj (by rw [← h]; exact e)
            · rw [h] at e
              have := (hl2 j hj).2
              simp at e; omega
          have hk2 : w3.ownsRow W0.heap.size 3 1 v2 (k + 1) (iC (ownM ms (k + 1))) := by
            rw [ownM_succ, HMZ.out, iC_append]
            refine (own_keep ho2 ((Below.refl _ w2).alloc (Nat.le_refl _) (.cells #[.int .i64 15] 3))).kept hg3 ?_
            cases hv : v2.ownBlock with
            | none => exact .inl rfl
            | some j => exact .inr (fun e => hap8 j hv e.symm)
          have hk3 : w3.ownsRow W0.heap.size 3 1 v3 (k + 1) (iC (List.replicate (k + 1) 15)) := by
            rw [List.replicate_succ', iC_append]; exact ho3
          exact ⟨⟨k + 1, by omega, rfl, hf3, hk2, hk3, hap9⟩, by simp [intOf]; omega⟩
      · obtain rfl : k = d.cache.length := by omega
        obtain ⟨os, hos⟩ : ∃ os, ownM ms d.cache.length = os := ⟨_, rfl⟩
        have hosl : os.length = d.cache.length := by rw [← hos, ownM_length]
        have HOSL := Lib.hid hosl
        have HOSM : Hid (masksB os = true) := Lib.hid (by rw [← hos]; exact ownM_ok _ _)
        have hi1 : Ints wA (.slice y8 os.length c8) os := by have h := ownSl HO1.out; rw [hos] at h; rw [hosl]; exact hosl ▸ h
        have hi2 : Ints wA (.slice y9 d.cache.length c9) (List.replicate d.cache.length 15) := by have h := ownSl HO2.out; show SlR _ _ _ _ _; rw [List.length_replicate]; exact h
        rw [hosl] at hi1
        have HIA := Lib.hid hi1
        have HI9 := Lib.hid hi2
        have HU := Lib.hid (HUA.out.keep HFR.out)
        have H5 := Lib.hid (H5A.out.keep HFR.out)
        have HB : Hid (Below w.heap.size w wA) := Lib.hid (HBA.out.trans (HFR.out.mono HBA.out.size))
        clear hos hosl hi1 hi2 HO1 HO2 HAP HMA HMN HUA H5A HBA HFR
        obtain ⟨S, hS⟩ : ∃ S, settleBy d.pages d.cache os = S := ⟨_, rfl⟩
        have hcr := crashP_own HRD.out HOSM.out
        rw [hS] at hcr
        have HCR := Lib.hid hcr
        have HS := Lib.hid hS
        have HSO : Hid (S.length = d.pages.length ∧ ∀ b ∈ S, BOk b) := Lib.hid (by rw [← hS]; exact settleBy_ok HGD.out.pages _ _ HGD.out.cache)
        have HGC : Hid (DGood ⟨S, [], -1, false⟩) := Lib.hid (by have := crashP_good HGD.out os; rw [hcr] at this; exact this)
        clear hcr hS
        have h5 := H5.out
        go_wp2_with (refine Agg.gLoadB 4 h5 rfl rfl rfl rfl (by decide +kernel) ?_; simp only [Act.put, List.setIfInBounds_toArray, List.set_cons_succ, List.set_cons_zero])
        clear h5
        refine (crash_R HGD.out HC6.out HU.out (ms := os) (mv := .slice y8 d.cache.length c8) (by rw [HOSL.out]; exact HC6.out) (by have h := HIA.out; exact h)).mono ?_
        rintro e w31 ⟨un, rfl, hn, hb⟩
        replace HB := Lib.hid (HB.out.trans (hb.mono HB.out.size))
        replace HIA := Lib.hid (HIA.out.keep hb)
        replace HI9 := Lib.hid (HI9.out.keep hb)
        replace HU := Lib.hid (HU.out.keep hb)
        replace H5 := Lib.hid (H5.out.keep hb)
        clear hb
        rw [HCR.out]
        rw [HCR.out] at hn
        have HN := Lib.hid hn.read
        obtain ⟨q1, q2, q3, q4, rfl⟩ := DevR.shape HN.out
        clear hn HCR
        go_upto_region 17 with (fail)
        have HB0 := HB.out.size
        have hl5 := H5.out.lt
        refine Agg.wp_at fun w32 hw32 => ?_
        have hb : Below w31.heap.size w31 w32 := by rw [hw32.out]; repeat (first | exact Below.refl _ _ | refine Agg.bel_drew ?_ | refine Agg.bel_alloc ?_ _)
        replace HB := Lib.hid (HB.out.trans (hb.mono HB.out.size))
        replace HIA := Lib.hid (HIA.out.keep hb)
        replace HI9 := Lib.hid (HI9.out.keep hb)
        replace HU := Lib.hid (HU.out.keep hb)
        replace H5 := Lib.hid (H5.out.keep hb)
        replace HN := Lib.hid (HN.out.keep hb)
        clear hb
        have H12 : Hid (Blk w32 w31.heap.size 36 [.slice q1 S.length q2, .slice q3 0 q4, .int .i64 (-1), .bool false]) := by show Blk _ _ _ _; rw [hw32.out]; exact Blk.new w31 36 #[.slice q1 S.length q2, .slice q3 0 q4, .int .i64 (-1), .bool false]
        clear hw32
        have H12G : Hid (w.heap.size ≤ w31.heap.size ∧ g5 ≠ w31.heap.size) := Lib.hid ⟨HB0, by omega⟩
        clear HB0 hl5
        generalize w31.heap.size = g12 at *
        refine Agg.listR 26 (by kernel_rfl) ?_
        simp only [List.take_succ_cons, List.take_zero, List.drop_succ_cons, List.drop_zero]
        refine Agg.chMove rfl rfl rfl rfl ?_
        refine Agg.chNe false (by simp) rfl rfl rfl rfl rfl ?_
        refine Agg.chMove rfl rfl rfl rfl ?_
        refine Agg.chFA (by first | exact fo_fo_Dev_1 | exact fo_fo_Wr_1 | exact fo_fo_Op_1 | exact fo_fo_Fl_1 | exact fo_fo_Se_1) rfl rfl rfl rfl ?_
        refine Agg.chLoadB H12.out (by decide +kernel) rfl rfl (by rfl) rfl rfl ?_
        refine Agg.chLen Try.underlying34 rfl rfl rfl rfl ?_
        refine Agg.chNe false (by simp) rfl rfl rfl rfl rfl ?_
        refine Agg.chPick rfl rfl rfl rfl rfl ?_
        refine Agg.chMove rfl rfl rfl rfl ?_
        refine Agg.chFA (by first | exact fo_fo_Dev_3 | exact fo_fo_Op_3) rfl rfl rfl rfl ?_
        refine Agg.chLoadB H12.out (by decide +kernel) rfl rfl (by rfl) rfl rfl ?_
        refine Agg.chPick rfl rfl rfl rfl rfl ?_
        refine Agg.chMove rfl rfl rfl rfl ?_
        refine Agg.chFA (by first | exact fo_fo_Dev_2 | exact fo_fo_Op_2 | exact fo_fo_Fl_2) rfl rfl rfl rfl ?_
        refine Agg.chLoadB H12.out (by decide +kernel) rfl rfl (by rfl) rfl rfl ?_
        refine Agg.chNe false (by simp) rfl rfl rfl rfl rfl ?_
        refine Agg.chPick rfl rfl rfl rfl rfl ?_
        refine Agg.chMove rfl rfl rfl rfl ?_
        refine Agg.chFA (by first | exact fo_fo_Dev_0 | exact fo_fo_Wr_0 | exact fo_fo_Tu_0 | exact fo_fo_Op_0 | exact fo_fo_Fl_0 | exact fo_fo_Se_0) rfl rfl rfl rfl ?_
        refine Agg.chLoadB H12.out (by decide +kernel) rfl rfl (by rfl) rfl rfl ?_
        refine Agg.chLen Try.underlying33 rfl rfl rfl rfl ?_
        refine Agg.chFA (by first | exact fo_fo_Dev_0 | exact fo_fo_Wr_0 | exact fo_fo_Tu_0 | exact fo_fo_Op_0 | exact fo_fo_Fl_0 | exact fo_fo_Se_0) rfl rfl rfl rfl ?_
        refine Agg.chLoadB H5.out (by decide +kernel) rfl rfl (by rfl) rfl rfl ?_
        refine Agg.chLen Try.underlying33 rfl rfl rfl rfl ?_
        refine Agg.chNe false (by rw [HSO.out.1]; simp) rfl rfl rfl rfl rfl ?_
        refine Agg.chPick rfl rfl rfl rfl rfl ?_
        refine Agg.chEnd ?_
        intro vs w33 hb _
        show Exit.then _ _ Exit.normal _ _
        simp only [List.reverse, List.reverseAux, Agg.fill, List.set_cons_succ, List.set_cons_zero]
        replace HB := Lib.hid (HB.out.trans (hb.mono HB.out.size))
        replace HIA := Lib.hid (HIA.out.keep hb)
        replace HI9 := Lib.hid (HI9.out.keep hb)
        replace HU := Lib.hid (HU.out.keep hb)
        replace H5 := Lib.hid (H5.out.keep hb)
        replace HN := Lib.hid (HN.out.keep hb)
        replace H12 := Lib.hid (H12.out.keep hb)
        clear hb
        obtain ⟨W1, hW1⟩ : ∃ x, x = w33 := ⟨_, rfl⟩
        have HFR : Hid (From W1 w33) := Lib.hid (by rw [hW1]; exact Below.refl _ _)
        have HBA : Hid (Below w.heap.size w W1) := Lib.hid (by rw [hW1]; exact HB.out)
        have HIA1 : Hid (Ints W1 (.slice y8 d.cache.length c8) os) := Lib.hid (by rw [hW1]; exact HIA.out)
        have HI91 : Hid (Ints W1 (.slice y9 d.cache.length c9) (List.replicate d.cache.length 15)) := Lib.hid (by rw [hW1]; exact HI9.out)
        have HU1 : Hid (DevR W1 (.agg #[.slice px d.pages.length pc, .slice cx d.cache.length cc, .int .i64 d.fuse, .bool d.off]) d) := Lib.hid (by rw [hW1]; exact HU.out)
        have H51 : Hid (Blk W1 g5 36 [.slice px d.pages.length pc, .slice cx d.cache.length cc, .int .i64 d.fuse, .bool d.off]) := Lib.hid (by rw [hW1]; exact H5.out)
        have HN1 : Hid (DevR W1 (.agg #[.slice q1 S.length q2, .slice q3 0 q4, .int .i64 (-1), .bool false]) ⟨S, [], -1, false⟩) := Lib.hid (by rw [hW1]; exact HN.out)
        have H121 : Hid (Blk W1 g12 36 [.slice q1 S.length q2, .slice q3 0 q4, .int .i64 (-1), .bool false]) := Lib.hid (by rw [hW1]; exact H12.out)
        clear hW1
        have hsn : (S.length : Int) ≤ 1000000 := by have h1 := HSO.out.1; have h2 := HGD.out.n1; omega
        have xH12_0 := H12.out.cell 0
        have xH12_1 := H12.out.cell 1
        have xH12_2 := H12.out.cell 2
        have xH12_3 := H12.out.cell 3
        have lH12 := H12.out.lt
        simp only [List.getElem?_cons_zero, List.getElem?_cons_succ] at xH12_0 xH12_1 xH12_2 xH12_3
        go_wp2_with fail
        clear xH12_0 xH12_1 xH12_2 xH12_3 lH12
        clear HIA HI9 HU H5 HN H12 HB
        go_loopw [97] (fun i wr => ∃ p : Nat, p ≤ S.length ∧ i = .int .i64 p ∧ From W1 wr) (fun i _ => S.length - (intOf i).toNat)
        case atStart => exact ⟨0, by omega, rfl, HFR.out⟩
        case round =>
          obtain ⟨p, hp, rfl, hfr⟩ := hrel
          clear HFR
          have HFR := Lib.hid hfr
          have HB : Hid (Below w.heap.size w wr) := Lib.hid (HBA.out.trans (hfr.mono HBA.out.size))
          clear hfr
          obtain ⟨wB, hwB⟩ : ∃ x, x = wr := ⟨_, rfl⟩
          subst hwB
          by_cases hlt : p < S.length
          · have hpg := SlR.keep (HN1.out.pgs).1 HFR.out
            obtain ⟨b, o, cap', hve, _, _, hcm, _⟩ := SlR.pos hpg (by decide) (by show 0 < S.length; omega)
            simp only [Value.slice.injEq, true_and] at hve
            obtain ⟨rfl, rfl⟩ := hve
            have hrow := flat_at blkC 132 (by decide) hpg (fun b hb => bok_cells (HSO.out.2 b hb)) hlt
            have HBP := Lib.hid (HSO.out.2 S[p] (List.getElem_mem hlt))
            have hpd : p < d.pages.length := by rw [← HSO.out.1]; exact hlt
            have HBD := Lib.hid (HGD.out.pages d.pages[p] (List.getElem_mem hpd))
            have HSP : Hid (∀ k, (hk : k < 4) → S[p][k]'(by rw [HBP.out.1]; exact hk) = wantS k p (d.pages[p][k]'(by rw [HBD.out.1]; exact hk)) d.cache os) := Lib.hid (fun k hk => by
              have h := settleBy_sec d.pages d.cache os (fun x hx => by obtain ⟨q, h1, _⟩ := there_nat ((right_six HRD.out).2.2.2.2.2 x hx); omega) k p hk hpd
              rw [HS.out] at h
              have e1 : S.getD p zeroB = S[p] := by rw [List.getD_eq_getElem?_getD, List.getElem?_eq_getElem hlt]; rfl
              have e2 : d.pages.getD p zeroB = d.pages[p] := by rw [List.getD_eq_getElem?_getD, List.getElem?_eq_getElem hpd]; rfl
              rw [e1, e2] at h
              rw [getD_mem k (by rw [HBP.out.1]; exact hk), getD_mem k (by rw [HBD.out.1]; exact hk)] at h
              exact h)
            clear hpg hcm
            generalize S[p] = sb at *
            have hls := bok_cells HBP.out
            go_upto_region 22 with (first
              | (refine Agg.gLoad 132 (blkC sb) rfl rfl rfl (by decide +kernel) hls hrow ?_; simp only [Act.put, List.setIfInBounds_toArray, List.set_cons_succ, List.set_cons_zero])
              | (refine Agg.allocRow 46 (blkC zeroB).toArray rfl rfl (by kernel_rfl) ?_; simp only [Act.put, List.setIfInBounds_toArray, List.set_cons_succ, List.set_cons_zero])
              | (refine Agg.gStoreNew 132 (blkC sb) rfl rfl rfl rfl rfl rfl (by decide +kernel) hls zero132 (blkC_one _) ?_; simp only [Act.put]))
            refine Agg.wp_at fun w41 hw41 => ?_
            have hb : Below wB.heap.size wB w41 := by rw [hw41.out]; repeat (first | exact Below.refl _ _ | refine Agg.bel_drew ?_ | refine Agg.bel_alloc ?_ _)
            replace HB := Lib.hid (HB.out.trans (hb.mono HB.out.size))
            replace HFR := Lib.hid (HFR.out.keep hb)
            clear hb
            have H15 : Hid (Blk w41 wB.heap.size 46 (blkC sb)) := by show Blk _ _ _ _; rw [hw41.out]; exact Blk.new wB 46 (blkC sb).toArray
            clear hw41 hrow
            generalize wB.heap.size = g15 at *
            have h15 := H15.out
            go_wp2_with (refine Agg.gLoadB 132 h15 hls rfl rfl rfl (by decide +kernel) ?_; simp only [Act.put, List.setIfInBounds_toArray, List.set_cons_succ, List.set_cons_zero])
            clear h15 hls H15
            go_loopw [103] (fun i wr => ∃ k : Nat, k ≤ 4 ∧ i = .int .i64 k ∧ From W1 wr) (fun i _ => 4 - (intOf i).toNat)
            case atStart => exact ⟨0, by omega, rfl, HFR.out⟩
            case round =>
              obtain ⟨k, hk, rfl, hfr⟩ := hrel
              clear HFR HB
              have HFR := Lib.hid hfr
              have HB : Hid (Below w.heap.size w wr) := Lib.hid (HBA.out.trans (hfr.mono HBA.out.size))
              clear hfr
              obtain ⟨wC, hwC⟩ : ∃ x, x = wr := ⟨_, rfl⟩
              subst hwC
              by_cases hk4 : k < 4
              · have hkl : k < sb.length := by rw [HBP.out.1]; exact hk4
                have hkd : k < (d.pages[p]).length := by rw [HBD.out.1]; exact hk4
                have hel := sec_of HBP.out k hkl
                have HSK := Lib.hid (HSP.out k hk4)
                have HSO1 := Lib.hid (sec_bok HBP.out k hkl)
                have HSO2 := Lib.hid (sec_bok HBD.out k hkd)
                have HRD2 : Hid (∀ W, From W1 W → ∃ b o, px = some ⟨b, o, none⟩ ∧ ∀ i v, (secC (d.pages[p][k]'hkd))[i]? = some v → W.cell? ⟨b, o + p * 132 + k * 33 + i, none⟩ = some v) := Lib.hid (fun W hf => by
                  have hpg := SlR.keep (HU1.out.pgs).1 hf
                  obtain ⟨b, o, cap', hve, _, _, hcm, _⟩ := SlR.pos hpg (by decide) (by show 0 < d.pages.length; omega)
                  simp only [Value.slice.injEq, true_and] at hve
                  obtain ⟨rfl, rfl⟩ := hve
                  refine ⟨b, o, rfl, fun i v hv => ?_⟩
                  have h := flat_at blkC 132 (by decide) hpg (fun b hb => bok_cells (HGD.out.pages b hb)) hpd (k * 33 + i) v (sec_at HBD.out k hkd i v hv)
                  rw [Int.toNat_natCast] at h
                  rw [Nat.add_assoc (o + p * 132)]; exact h)
                generalize d.pages[p][k]'hkd = s0 at *
                generalize sb[k]'hkl = sk at *
                have hsl := secC_length sk HSO1.out.1
                go_upto_region 25 with (first
                  | (refine Agg.gIndexRow aiBl (by decide +kernel) (secC sk) hk4 hel rfl rfl rfl rfl ?_; simp only [Act.put, List.setIfInBounds_toArray, List.set_cons_succ, List.set_cons_zero])
                  | (refine Agg.allocRow 44 (secC zsec).toArray rfl rfl (by kernel_rfl) ?_; simp only [Act.put, List.setIfInBounds_toArray, List.set_cons_succ, List.set_cons_zero])
                  | (refine Agg.gStoreNew 33 (secC sk) rfl rfl rfl rfl rfl rfl (by decide +kernel) hsl rfl (secC_one _) ?_; simp only [Act.put]))
                refine Agg.wp_at fun w51 hw51 => ?_
                have hb : Below wC.heap.size wC w51 := by rw [hw51.out]; repeat (first | exact Below.refl _ _ | refine Agg.bel_drew ?_ | refine Agg.bel_alloc ?_ _)
                replace HB := Lib.hid (HB.out.trans (hb.mono HB.out.size))
                replace HFR := Lib.hid (HFR.out.keep hb)
                clear hb
                have H17 : Hid (Blk w51 wC.heap.size 44 (secC sk)) := by show Blk _ _ _ _; rw [hw51.out]; exact Blk.new wC 44 (secC sk).toArray
                clear hw51 hel
                generalize wC.heap.size = g17 at *
                have HSL := Lib.hid hsl
                have hsl0 := secC_length s0 HSO2.out.1
                have HSL0 := Lib.hid hsl0
                clear hsl
                have H5 := Lib.hid (H51.out.keep HFR.out)
                obtain ⟨pb, po, hpx, hpr⟩ := HRD2.out w51 HFR.out
                subst hpx
                have xH5_0 := H5.out.cell 0
                have xH5_1 := H5.out.cell 1
                have xH5_2 := H5.out.cell 2
                have xH5_3 := H5.out.cell 3
                have lH5 := H5.out.lt
                simp only [List.getElem?_cons_zero, List.getElem?_cons_succ] at xH5_0 xH5_1 xH5_2 xH5_3
                go_upto_region 26 with (first
                  | (refine Agg.gLoad 33 (secC s0) rfl rfl rfl (by decide +kernel) hsl0 hpr ?_; simp only [Act.put, List.setIfInBounds_toArray, List.set_cons_succ, List.set_cons_zero])
                  | (refine Agg.allocRow 44 (secC zsec).toArray rfl rfl (by kernel_rfl) ?_; simp only [Act.put, List.setIfInBounds_toArray, List.set_cons_succ, List.set_cons_zero])
                  | (refine Agg.gStoreNew 33 (secC s0) rfl rfl rfl rfl rfl rfl (by decide +kernel) hsl0 rfl (secC_one _) ?_; simp only [Act.put]))
                clear xH5_0 xH5_1 xH5_2 xH5_3 lH5
                clear hpr hsl0 H5
                have hfs := HFR.out.size
                have hl17 := H17.out.lt
                refine Agg.wp_at fun w52 hw52 => ?_
                have hb : Below w51.heap.size w51 w52 := by rw [hw52.out]; repeat (first | exact Below.refl _ _ | refine Agg.bel_drew ?_ | refine Agg.bel_alloc ?_ _)
                replace HB := Lib.hid (HB.out.trans (hb.mono HB.out.size))
                replace HFR := Lib.hid (HFR.out.keep hb)
                replace H17 := Lib.hid (H17.out.keep hb)
                clear hb
                have H18 : Hid (Blk w52 w51.heap.size 44 (secC s0)) := by show Blk _ _ _ _; rw [hw52.out]; exact Blk.new w51 44 (secC s0).toArray
                have HG18 : Hid (W1.heap.size ≤ w51.heap.size ∧ g17 ≠ w51.heap.size) := Lib.hid ⟨hfs, by omega⟩
                clear hw52 hfs hl17
                generalize w51.heap.size = g18 at *
                have H5 := Lib.hid (H51.out.keep HFR.out)
                have xH5_0 := H5.out.cell 0
                have xH5_1 := H5.out.cell 1
                have xH5_2 := H5.out.cell 2
                have xH5_3 := H5.out.cell 3
                have lH5 := H5.out.lt
                simp only [List.getElem?_cons_zero, List.getElem?_cons_succ] at xH5_0 xH5_1 xH5_2 xH5_3
                go_wp2_with fail
                clear xH5_0 xH5_1 xH5_2 xH5_3 lH5
                clear H5
                have hcn : (d.cache.length : Int) ≤ 40 := by have := HFEW.out; omega
                go_loopw [117] (fun i wr => ∃ j : Nat, j ≤ d.cache.length ∧ i = .int .i64 j ∧ From W1 wr ∧ Blk wr g17 44 (secC sk) ∧ Blk wr g18 44 (secC (wantS k p s0 (d.cache.take j) os))) (fun i _ => d.cache.length - (intOf i).toNat)
                case atStart => exact ⟨0, by omega, rfl, HFR.out, H17.out, by rw [List.take_zero, wantS_nil]; exact H18.out⟩
                case round =>
                  obtain ⟨j, hj, rfl, hfr, h17, h18⟩ := hrel
                  clear HFR HB H17 H18
                  have HFR := Lib.hid hfr
                  have H17 := Lib.hid h17
                  have H18 := Lib.hid h18
                  have HB : Hid (Below w.heap.size w wr) := Lib.hid (HBA.out.trans (hfr.mono HBA.out.size))
                  clear hfr h17 h18
                  obtain ⟨wD, hwD⟩ : ∃ x, x = wr := ⟨_, rfl⟩
                  subst hwD
                  by_cases hjn : j < d.cache.length
                  · have hjo : j < os.length := by rw [HOSL.out]; exact hjn
                    have HWT := Lib.hid (wantS_take k p s0 d.cache os j hjn hjo)
                    have HWO := Lib.hid (wantS_ok k p hk4 HSO2.out (d.cache.take j) os (fun x hx => HGD.out.cache x (List.mem_of_mem_take hx)))
                    have HCW := Lib.hid (HGD.out.cache _ (List.getElem_mem hjn))
                    have hwr := SlR.keep (HU1.out.pgs).2 HFR.out
                    obtain ⟨cb, co, cap2, hve, _, _, _, _⟩ := SlR.pos hwr (by decide) (by show 0 < d.cache.length; omega)
                    simp only [Value.slice.injEq, true_and] at hve
                    obtain ⟨rfl, rfl⟩ := hve
                    have hrow := flat_at wrC 133 (by decide) hwr (fun b hb => wrC_length b (HGD.out.cache b hb)) hjn
                    have HOJ : Hid (∀ W, From W1 W → ∃ b o, y8 = some ⟨b, o, none⟩ ∧ W.cell? ⟨b, o + (j : Int).toNat * 1, none⟩ = some (.int .i64 (os[j]'hjo))) := Lib.hid (fun W hf => by
                      have h := SlR.keep HIA1.out hf
                      obtain ⟨b, o, cap', hve, _, _, hcm, _⟩ := SlR.pos h (by decide) (by omega)
                      simp only [Value.slice.injEq] at hve
                      obtain ⟨rfl, _, _⟩ := hve
                      exact ⟨b, o, rfl, by rw [Int.toNat_natCast, Nat.mul_one]; exact hcm j _ (by simp [iC, List.getElem?_eq_getElem hjo])⟩)
                    have HMK : Hid (0 ≤ os[j]'hjo) := Lib.hid (by
                      have h := HOSM.out
                      unfold masksB at h
                      rw [List.all_eq_true] at h
                      have := h _ (List.getElem_mem hjo)
                      simp at this; exact this.1)
                    clear hwr
                    generalize os[j]'hjo = mk at *
                    generalize d.cache[j]'hjn = cw at *
                    generalize wantS k p s0 (d.cache.take j) os = cur at *
                    have hwl := wrC_length cw HCW.out
                    go_upto_region 29 with (first
                      | (refine Agg.gLoad 133 (wrC cw) rfl rfl rfl (by decide +kernel) hwl hrow ?_; simp only [Act.put, List.setIfInBounds_toArray, List.set_cons_succ, List.set_cons_zero])
                      | (refine Agg.allocRow 48 wr0.toArray rfl rfl (by kernel_rfl) ?_; simp only [Act.put, List.setIfInBounds_toArray, List.set_cons_succ, List.set_cons_zero])
                      | (refine Agg.gStoreNew 133 (wrC cw) rfl rfl rfl rfl rfl rfl (by decide +kernel) hwl wr0_size (wrC_one _) ?_; simp only [Act.put]))
                    refine Agg.wp_at fun w61 hw61 => ?_
                    have hb : Below wD.heap.size wD w61 := by rw [hw61.out]; repeat (first | exact Below.refl _ _ | refine Agg.bel_drew ?_ | refine Agg.bel_alloc ?_ _)
                    replace HB := Lib.hid (HB.out.trans (hb.mono HB.out.size))
                    replace HFR := Lib.hid (HFR.out.keep hb)
                    replace H17 := Lib.hid (H17.out.keep hb)
                    replace H18 := Lib.hid (H18.out.keep hb)
                    clear hb
                    have H20 : Hid (Blk w61 wD.heap.size 48 (wrC cw)) := by show Blk _ _ _ _; rw [hw61.out]; exact Blk.new wD 48 (wrC cw).toArray
                    clear hw61 hrow hwl
                    generalize wD.heap.size = g20 at *
                    obtain ⟨ob, oo, hoy, hoc⟩ := HOJ.out w61 HFR.out
                    subst hoy
                    clear HOJ
                    by_cases hcp : cw.1 = (p : Int)
                    · by_cases hbit : mk / 2 ^ k % 2 = 1
                      · have hw2 := HWT.out
                        rw [if_pos ⟨hcp, hbit⟩, getD_mem k (by rw [HCW.out.1]; exact hk4)] at hw2
                        have HW2 := Lib.hid hw2
                        clear hw2
                        refine Agg.listR 14 (by kernel_rfl) ?_
                        simp only [List.take_succ_cons, List.take_zero, List.drop_succ_cons, List.drop_zero]
                        refine Agg.chFA (by first | exact fo_fo_Dev_0 | exact fo_fo_Wr_0 | exact fo_fo_Tu_0 | exact fo_fo_Op_0 | exact fo_fo_Fl_0 | exact fo_fo_Se_0) rfl rfl rfl rfl ?_
                        refine Agg.chLoadB H20.out (by decide +kernel) rfl rfl (by rfl) rfl rfl ?_
                        refine Agg.chMove rfl rfl rfl rfl ?_
                        refine Agg.chEq true (by simp [hcp]) rfl rfl rfl rfl rfl ?_
                        refine Agg.chMove rfl rfl rfl rfl ?_
                        refine Agg.chMove rfl rfl rfl rfl ?_
                        refine Agg.chMove rfl rfl rfl rfl ?_
                        refine Agg.chIA tiInt (by omega) (by omega) rfl rfl rfl rfl rfl ?_
                        refine Agg.chLoad rfl rfl rfl rfl (by decide +kernel) hoc ?_
                        refine Agg.chMove rfl rfl rfl rfl ?_
                        refine Agg.chBin (v := .int .i64 (mk / 2 ^ k)) rfl rfl rfl rfl rfl (fun _ => rfl) (fun w => run_shr_i64 3 mk k (by omega) w) ?_
                        refine Agg.chRem ((mk / 2 ^ k) % 2) rfl rfl rfl (by decide) (Int.tmod_eq_emod_of_nonneg (Int.ediv_nonneg HMK.out (Int.le_of_lt (Int.pow_pos (by decide))))) rfl rfl ?_
                        refine Agg.chEq true (by simpa using hbit) rfl rfl rfl rfl rfl ?_
                        refine Agg.chPick rfl rfl rfl rfl rfl ?_
                        refine Agg.chEnd ?_
                        intro vs w62 hb _
                        show Exit.then _ _ Exit.normal _ _
                        simp only [List.reverse, List.reverseAux, Agg.fill, List.set_cons_succ, List.set_cons_zero]
                        replace HB := Lib.hid (HB.out.trans (hb.mono HB.out.size))
                        replace HFR := Lib.hid (HFR.out.keep hb)
                        replace H17 := Lib.hid (H17.out.keep hb)
                        replace H18 := Lib.hid (H18.out.keep hb)
                        replace H20 := Lib.hid (H20.out.keep hb)
                        clear hb
                        have hcl : k < cw.2.length := by rw [HCW.out.1]; exact hk4
                        have hrow2 : ∀ i v, (secC (cw.2[k]'hcl))[i]? = some v → w62.cell? ⟨g20, 0 + 1 + k * 33 + i, none⟩ = some v := fun i v hv => by
                          rw [H20.out.cell, show 0 + 1 + k * 33 + i = (k * 33 + i) + 1 by omega]
                          exact sec_at HCW.out k hcl i v hv
                        have hsc := secC_length (cw.2[k]'hcl) (sec_bok HCW.out k hcl).1
                        have hscu := secC_length cur HWO.out.1
                        have h18 := H18.out
                        generalize cw.2[k]'hcl = nw at *
                        clear hoc
                        go_wp2_with (first
                          | (refine Agg.gLoad 33 (secC nw) rfl rfl rfl (by decide +kernel) hsc hrow2 ?_; simp only [Act.put, List.setIfInBounds_toArray, List.set_cons_succ, List.set_cons_zero])
                          | (refine Agg.gStoreB 33 (secC nw) h18 rfl rfl rfl rfl rfl (by decide +kernel) hscu hsc (secC_one _) (fun w62 hb62 hg62 => ?_)))
                        exact ⟨⟨j + 1, hjn, rfl, HFR.out.trans (grown_below hg62 HFR.out.size (fun i hi => (by cases hi; exact HG18.out.1))), H17.out.far' hg62 HG18.out.2, by rw [HW2.out]; exact hb62⟩, by simp [intOf]; omega⟩
                      · have hw2 := HWT.out
                        rw [if_neg (fun h => hbit h.2)] at hw2
                        have HW2 := Lib.hid hw2
                        clear hw2
                        refine Agg.listR 14 (by kernel_rfl) ?_
                        simp only [List.take_succ_cons, List.take_zero, List.drop_succ_cons, List.drop_zero]
                        refine Agg.chFA (by first | exact fo_fo_Dev_0 | exact fo_fo_Wr_0 | exact fo_fo_Tu_0 | exact fo_fo_Op_0 | exact fo_fo_Fl_0 | exact fo_fo_Se_0) rfl rfl rfl rfl ?_
                        refine Agg.chLoadB H20.out (by decide +kernel) rfl rfl (by rfl) rfl rfl ?_
                        refine Agg.chMove rfl rfl rfl rfl ?_
                        refine Agg.chEq true (by simp [hcp]) rfl rfl rfl rfl rfl ?_
                        refine Agg.chMove rfl rfl rfl rfl ?_
                        refine Agg.chMove rfl rfl rfl rfl ?_
                        refine Agg.chMove rfl rfl rfl rfl ?_
                        refine Agg.chIA tiInt (by omega) (by omega) rfl rfl rfl rfl rfl ?_
                        refine Agg.chLoad rfl rfl rfl rfl (by decide +kernel) hoc ?_
                        refine Agg.chMove rfl rfl rfl rfl ?_
                        refine Agg.chBin (v := .int .i64 (mk / 2 ^ k)) rfl rfl rfl rfl rfl (fun _ => rfl) (fun w => run_shr_i64 3 mk k (by omega) w) ?_
                        refine Agg.chRem ((mk / 2 ^ k) % 2) rfl rfl rfl (by decide) (Int.tmod_eq_emod_of_nonneg (Int.ediv_nonneg HMK.out (Int.le_of_lt (Int.pow_pos (by decide))))) rfl rfl ?_
                        refine Agg.chEq false (by simpa using hbit) rfl rfl rfl rfl rfl ?_
                        refine Agg.chPick rfl rfl rfl rfl rfl ?_
                        refine Agg.chEnd ?_
                        intro vs w63 hb _
                        show Exit.then _ _ Exit.normal _ _
                        simp only [List.reverse, List.reverseAux, Agg.fill, List.set_cons_succ, List.set_cons_zero]
                        replace HB := Lib.hid (HB.out.trans (hb.mono HB.out.size))
                        replace HFR := Lib.hid (HFR.out.keep hb)
                        replace H17 := Lib.hid (H17.out.keep hb)
                        replace H18 := Lib.hid (H18.out.keep hb)
                        replace H20 := Lib.hid (H20.out.keep hb)
                        clear hb
                        go_wp2_with fail
                        exact ⟨⟨j + 1, hjn, rfl, HFR.out, H17.out, by rw [HW2.out]; exact H18.out⟩, by simp [intOf]; omega⟩
                    · have hw2 := HWT.out
                      rw [if_neg (fun h => hcp h.1)] at hw2
                      have HW2 := Lib.hid hw2
                      clear hw2
                      refine Agg.listR 14 (by kernel_rfl) ?_
                      simp only [List.take_succ_cons, List.take_zero, List.drop_succ_cons, List.drop_zero]
                      refine Agg.chFA (by first | exact fo_fo_Dev_0 | exact fo_fo_Wr_0 | exact fo_fo_Tu_0 | exact fo_fo_Op_0 | exact fo_fo_Fl_0 | exact fo_fo_Se_0) rfl rfl rfl rfl ?_
                      refine Agg.chLoadB H20.out (by decide +kernel) rfl rfl (by rfl) rfl rfl ?_
                      refine Agg.chMove rfl rfl rfl rfl ?_
                      refine Agg.chEq false (by simpa using hcp) rfl rfl rfl rfl rfl ?_
                      refine Agg.chMove rfl rfl rfl rfl ?_
                      refine Agg.chSkip rfl rfl ?_
                      refine Agg.chSkip rfl rfl ?_
                      refine Agg.chSkip rfl rfl ?_
                      refine Agg.chSkip rfl rfl ?_
                      refine Agg.chSkip rfl rfl ?_
                      refine Agg.chSkip rfl rfl ?_
                      refine Agg.chSkip rfl rfl ?_
                      refine Agg.chSkip rfl rfl ?_
                      refine Agg.chPick rfl rfl rfl rfl rfl ?_
                      refine Agg.chEnd ?_
                      intro vs w64 hb _
                      show Exit.then _ _ Exit.normal _ _
                      simp only [List.reverse, List.reverseAux, Agg.fill, List.set_cons_succ, List.set_cons_zero]
                      replace HB := Lib.hid (HB.out.trans (hb.mono HB.out.size))
                      replace HFR := Lib.hid (HFR.out.keep hb)
                      replace H17 := Lib.hid (H17.out.keep hb)
                      replace H18 := Lib.hid (H18.out.keep hb)
                      replace H20 := Lib.hid (H20.out.keep hb)
                      clear hb
                      go_wp2_with fail
                      exact ⟨⟨j + 1, hjn, rfl, HFR.out, H17.out, by rw [HW2.out]; exact H18.out⟩, by simp [intOf]; omega⟩
                  · obtain rfl : j = d.cache.length := by omega
                    have hw := H18.out
                    rw [List.take_length, ← HSK.out] at hw
                    have H18b := Lib.hid hw
                    clear hw
                    go_upto_region 32 with (fail)
                    refine Agg.listR 3 (by kernel_rfl) ?_
                    simp only [List.take_succ_cons, List.take_zero, List.drop_succ_cons, List.drop_zero]
                    refine Agg.chRowB 33 H17.out HSL.out (by decide +kernel) rfl rfl rfl rfl ?_
                    refine Agg.chRowB 33 H18b.out HSL.out (by decide +kernel) rfl rfl rfl rfl ?_
                    refine Agg.chBin (v := .bool false) rfl rfl rfl rfl rfl (fun w => flatSec.gd .neq _ _ _ _ w) (fun w => sec_neq sk HSO1.out w) ?_
                    refine Agg.chEnd ?_
                    intro vs w65 hb _
                    show Exit.then _ _ Exit.normal _ _
                    simp only [List.reverse, List.reverseAux, Agg.fill, List.set_cons_succ, List.set_cons_zero]
                    replace HB := Lib.hid (HB.out.trans (hb.mono HB.out.size))
                    replace HFR := Lib.hid (HFR.out.keep hb)
                    replace H17 := Lib.hid (H17.out.keep hb)
                    replace H18 := Lib.hid (H18.out.keep hb)
                    clear hb
                    go_wp2_with fail
                    exact ⟨⟨k + 1, hk4, rfl, HFR.out⟩, by simp [intOf]; omega⟩
              · obtain rfl : k = 4 := by omega
                go_wp2_with fail
                refine ⟨?_, by simp [intOf]; omega⟩
                repeat apply Exists.intro
                exact ⟨⟨p + 1, hlt, rfl, HFR.out⟩, rfl⟩
          · obtain rfl : p = S.length := by omega
            obtain ⟨Z, hZ⟩ : ∃ Z, settleAll d.pages d.cache = Z := ⟨_, rfl⟩
            have hcr : crashP d (List.replicate d.cache.length 15) = (0, ⟨Z, [], -1, false⟩) := by rw [crashP_own HRD.out (all15_ok _), settleBy_all _ _ _ rfl, hZ]
            have hfl := flush_lit HRD.out
            rw [hZ] at hfl
            have HCR := Lib.hid hcr
            have HFL := Lib.hid hfl
            have HGZ : Hid (DGood ⟨Z, [], -1, false⟩) := Lib.hid (by have := crashP_good HGD.out (List.replicate d.cache.length 15); rw [hcr] at this; exact this)
            clear hcr hfl hZ
            have H5 := Lib.hid (H51.out.keep HFR.out)
            have HU := Lib.hid (HU1.out.keep HFR.out)
            have H12 := Lib.hid (H121.out.keep HFR.out)
            have HI9 := Lib.hid (SlR.keep HI91.out HFR.out)
            clear HFR HBA H51 HU1 H121 HI91 HIA1 HN1 HSO HGC HS
            have h5 := H5.out
            go_wp2_with (refine Agg.gLoadB 4 h5 rfl rfl rfl rfl (by decide +kernel) ?_; simp only [Act.put, List.setIfInBounds_toArray, List.set_cons_succ, List.set_cons_zero])
            clear h5
            refine (crash_R HGD.out HC6.out HU.out (ms := List.replicate d.cache.length 15) (mv := .slice y9 d.cache.length c9) (by rw [List.length_replicate]; exact HC6.out) HI9.out).mono ?_
            rintro e w66 ⟨un, rfl, hn, hb⟩
            replace HB := Lib.hid (HB.out.trans (hb.mono HB.out.size))
            replace H5 := Lib.hid (H5.out.keep hb)
            replace HU := Lib.hid (HU.out.keep hb)
            replace H12 := Lib.hid (H12.out.keep hb)
            replace HI9 := Lib.hid (HI9.out.keep hb)
            clear hb
            rw [HCR.out]
            rw [HCR.out] at hn
            have HN := Lib.hid hn.read
            obtain ⟨r1, r2, r3, r4, rfl⟩ := DevR.shape HN.out
            clear hn HCR HI9
            have h12 := H12.out
            go_upto_region 37 with (refine Agg.gStoreB 4 [.slice r1 Z.length r2, .slice r3 0 r4, .int .i64 (-1), .bool false] h12 rfl rfl rfl rfl rfl (by decide +kernel) rfl rfl (by simp [Value.oneCell']) (fun w71 hb71 hg71 => ?_))
            have hnr : DevR w71 (.agg #[.slice r1 Z.length r2, .slice r3 0 r4, .int .i64 (-1), .bool false]) ⟨Z, [], -1, false⟩ := HN.out.far HGZ.out.ok h12 hg71
            have h5 := H5.out.far' hg71 H12G.out.2
            have hu := HU.out.far HGD.out.ok h12 hg71
            have hbb := HB.out.trans (grown_below hg71 HB.out.size (fun j hj => (by cases hj; exact H12G.out.1)))
            have h5k := h5
            go_upto_region 38 with (first
              | (refine Agg.gStoreCell 3 (.bool false) h5 rfl rfl rfl rfl rfl (by kernel_rfl) rfl (by simp) rfl (fun w72 hb72 hg72 => ?_); clear h5)
              | (refine Agg.gStoreCell 2 (.int .i64 (-1)) hb72 rfl rfl rfl rfl rfl (by kernel_rfl) rfl (by simp [spliced]) rfl (fun w73 hb73 hg73 => ?_)))
            simp only [spliced, List.take_succ_cons, List.take_zero, List.drop_succ_cons, List.drop_zero, List.length_cons, List.length_nil, List.cons_append, List.nil_append] at hb72 hb73
            have hd5 := DevAt.turn HGD.out.ok h5k hu hg72 hb72 hg73 hb73
            have h12b : Blk w73 g12 36 [.slice r1 Z.length r2, .slice r3 0 r4, .int .i64 (-1), .bool false] := (hb71.far' hg72 (Ne.symm H12G.out.2)).far' hg73 (Ne.symm H12G.out.2)
            have hnr2 := (hnr.far HGZ.out.ok h5k hg72).far HGZ.out.ok hb72 hg73
            have hb2 := hbb.trans (grown_below hg72 hbb.size (fun j hj => (by cases hj; exact H5G.out)))
            have hb3 := hb2.trans (grown_below hg73 hb2.size (fun j hj => (by cases hj; exact H5G.out)))
            clear H5 HU H12 HN HB h12
            have HB := Lib.hid hb3
            have H12 := Lib.hid h12b
            have HN := Lib.hid hnr2
            have HG5 : Hid (DGood { d with fuse := -1, off := false }) := Lib.hid ⟨HGD.out.pages, HGD.out.cache, HGD.out.nums, HGD.out.np⟩
            have HC5 : Hid (({ d with fuse := -1, off := false } : Dev).cache.length ≤ 1000000) := HC6
            generalize ({ d with fuse := -1, off := false } : Dev) = d5 at *
            obtain ⟨t1, t2, t3, t4, h5a, h5b⟩ := hd5
            have H5 := Lib.hid h5a
            have HU := Lib.hid h5b
            clear hb71 hg71 hnr h5k hu hbb hb72 hg72 hb73 hg73 h12b hnr2 hb2 hb3 h5a h5b
            have h5 := H5.out
            go_wp2_with (refine Agg.gLoadB 4 h5 rfl rfl rfl rfl (by decide +kernel) ?_; simp only [Act.put, List.setIfInBounds_toArray, List.set_cons_succ, List.set_cons_zero])
            clear h5
            refine (flush_R HG5.out HC5.out HU.out).mono ?_
            rintro e w81 ⟨uf, rfl, hf, hb⟩
            replace HB := Lib.hid (HB.out.trans (hb.mono HB.out.size))
            replace H5 := Lib.hid (H5.out.keep hb)
            replace HU := Lib.hid (HU.out.keep hb)
            replace H12 := Lib.hid (H12.out.keep hb)
            replace HN := Lib.hid (HN.out.keep hb)
            clear hb
            rw [HFL.out] at hf
            rw [HFL.out]
            have HF := Lib.hid hf.read
            obtain ⟨s1, s2, s3, s4, rfl⟩ := DevR.shape HF.out
            clear hf HFL
            go_upto_region 39 with (fail)
            refine Agg.wp_at fun w82 hw82 => ?_
            have hb : Below w81.heap.size w81 w82 := by rw [hw82.out]; repeat (first | exact Below.refl _ _ | refine Agg.bel_drew ?_ | refine Agg.bel_alloc ?_ _)
            replace HB := Lib.hid (HB.out.trans (hb.mono HB.out.size))
            replace H12 := Lib.hid (H12.out.keep hb)
            replace HN := Lib.hid (HN.out.keep hb)
            replace HF := Lib.hid (HF.out.keep hb)
            clear hb
            have H21 : Hid (Blk w82 w81.heap.size 36 [.slice s1 Z.length s2, .slice s3 0 s4, .int .i64 (-1), .bool false]) := by show Blk _ _ _ _; rw [hw82.out]; exact Blk.new w81 36 #[.slice s1 Z.length s2, .slice s3 0 s4, .int .i64 (-1), .bool false]
            clear hw82
            generalize w81.heap.size = g21 at *
            refine Agg.listR 12 (by kernel_rfl) ?_
            simp only [List.take_succ_cons, List.take_zero, List.drop_succ_cons, List.drop_zero]
            refine Agg.chMove rfl rfl rfl rfl ?_
            refine Agg.chEq true (by simp) rfl rfl rfl rfl rfl ?_
            refine Agg.chMove rfl rfl rfl rfl ?_
            refine Agg.chMove rfl rfl rfl rfl ?_
            refine Agg.chEq true (by simp) rfl rfl rfl rfl rfl ?_
            refine Agg.chPick rfl rfl rfl rfl rfl ?_
            refine Agg.chMove rfl rfl rfl rfl ?_
            refine Agg.chRowB 4 H12.out rfl (by decide +kernel) rfl rfl rfl rfl ?_
            refine Agg.chRowB 4 H21.out rfl (by decide +kernel) rfl rfl rfl rfl ?_
            refine Agg.chCall Try.func21 rfl (by kernel_rfl) rfl rfl rfl rfl (fun W hb => same_R HGZ.out HGZ.out (DevR.keep HN.out hb) (DevR.keep HF.out hb) true (by simp)) ?_
            refine Agg.chPick rfl rfl rfl rfl rfl ?_
            refine Agg.chAssign rfl rfl rfl rfl ?_
            refine Agg.chEnd ?_
            intro vs w83 hb _
            show Exit.then _ _ Exit.normal _ _
            simp only [List.reverse, List.reverseAux, Agg.fill, List.set_cons_succ, List.set_cons_zero]
            replace HB := Lib.hid (HB.out.trans (hb.mono HB.out.size))
            replace H12 := Lib.hid (H12.out.keep hb)
            replace HN := Lib.hid (HN.out.keep hb)
            replace HF := Lib.hid (HF.out.keep hb)
            replace H21 := Lib.hid (H21.out.keep hb)
            clear hb
            go_wp2_with fail
            go_ret
            exact ⟨rfl, HB.out⟩
theorem DeviceWhole_walk (c0 : Array Value) (f0 : Nat) (v : Value) (f : Nat) (w : World) (h0 : Agg.Good Try.prog w f0 24 c0.toList) (h1 : Agg.Good Try.prog w f 29 [v]) :
    Calls Try.prog 7 #[.agg c0, v] w fun e w' => e = .returned (.bool true) ∧ Below w.heap.size w w' := by
  obtain ⟨x, fv, cv, rfl, hx⟩ := good_laid h0
  obtain ⟨l, hl, _⟩ := good_ints h1
  obtain ⟨s, cap, rfl, _⟩ := hl.shape
  exact whole_walk x fv cv l s l.length cap w hx hl
end Go.Proofs.Ytapdigcpaebjiaa
