/-
  THE WALK OF LAYER 8's STATEMENT PmcCuts.
-/
import Derived.Test.YtchpkgneloiidaaRows
import Derived.WalkKit
import Derived.ProofKit
import Derived.OpenShut
import Derived.Below
import Derived.StillTailTactics
import Derived.Lib.Hide
import Derived.BigQuiet
import Derived.Deep.QuietTactic
import Derived.WalkMore
import Derived.Maps.AppendAt
import Derived.Deep.Cut
import Derived.Test.YtchpkgneloiidaaPmI
import Derived.Test.YtchpkgneloiidaaFree
import Derived.Test.YtchpkgneloiidaaCopy
import Derived.Test.YtchpkgneloiidaaGood2
section
namespace Go.Proofs.Ytchpkgneloiidaa
open Go.ChangeShapes Go.WideShapes Go.ChangeAt Go.RowKit Agg Pg Pm
attribute [local go_sem] Oper.semAt_some

theorem longP_no {l : List Bd} (h : checkB l = false) : longP l = (0, 180) := by unfold longP; rw [h]; rfl
theorem longP_yes {l : List Bd} (h : checkB l = true) : longP l = (((longest l).2 : Int), 0) := by unfold longP; rw [h]; rfl
theorem tms_nC {w : World} {u : Value} {C : List Nat} (h : SlR w u 1 C.length (nC C)) : Tms w u (C.map fun n : Nat => (n : Int)) := by
  rw [nC_tC] at h
  show SlR _ _ _ _ _
  rw [List.length_map]; exact h
theorem cut_mem : ∀ (m : Nat) (l : List Bd), l.length ≤ m → Okb l → ∀ n ∈ cut l, n ≤ l.length
  | 0, l, h, _, n, hn => by
    have : l = [] := List.eq_nil_of_length_eq_zero (by omega)
    subst this; cases hn
  | m + 1, l, h, hok, n, hn => by
    by_cases h0 : l = []
    · subst h0; cases hn
    · rw [cut_step h0 hok] at hn
      have h1 := longest_pos h0 hok
      have h2 := longest_le hok
      rcases List.mem_cons.1 hn with rfl | hn
      · exact h2
      · have := cut_mem m (l.drop (longest l).2) (by rw [List.length_drop]; omega) (hok.drop _) n hn
        rw [List.length_drop] at this; omega
set_option maxHeartbeats 4000000 in
set_option maxRecDepth 100000 in
theorem cuts_walk (l : List Bd) (v : Value) (w : World) (hl : Bds w v l) (hrw : ∀ r ∈ l, Rw r) :
    Calls Try.prog 4 #[v] w fun e w' => e = .returned (.bool true) ∧ Below w.heap.size w w' := by
  obtain ⟨x, cap, rfl, _⟩ := SlR.shape hl
  have HL := Lib.hid hl
  have HRW := Lib.hid hrw
  clear hl hrw
  have HB := Lib.hid (Below.refl w.heap.size w)
  go_enter Try.func4, Try.ntmps4
  go_wp2_with fail
  refine (wakes_any w).mono ?_
  rintro e w1 ⟨rfl, hb⟩
  replace HB := Lib.hid (HB.out.trans (hb.mono HB.out.size))
  replace HL := Lib.hid (HL.out.keep hb)
  clear hb
  go_wp2_with fail
  refine (few_any l _ w1 HL.out).mono ?_
  rintro e w2 ⟨u, rfl, hu, hb⟩
  replace HB := Lib.hid (HB.out.trans (hb.mono HB.out.size))
  replace HL := Lib.hid (HL.out.keep hb)
  clear hb
  have HU0 : Hid (Bds w2 u (few257 l)) := Lib.hid (own_bds hu)
  have hfl := few_le l
  have HRL : Hid (∀ r ∈ few257 l, Rw r) := Lib.hid fun r hr => HRW.out r (List.mem_of_mem_take hr)
  have HFE : Hid (∀ (w : World), Bds w (.slice x l.length cap) l → Calls Try.prog 11 #[.slice x l.length cap] w fun e w' => ∃ u, e = .returned u ∧ w'.ownsRow w.heap.size 36 3 u (few257 l).length ((few257 l).flatMap bdC) ∧ Below w.heap.size w w') := Lib.hid fun w h => few_any l _ w h
  clear hu HRW
  generalize few257 l = L0 at *
  obtain ⟨ux, uc, rfl, huc, _⟩ := SlR.shape HU0.out
  obtain ⟨m, hmd⟩ : ∃ m, m = min L0.length 80 := ⟨_, rfl⟩
  have hm1 : m ≤ L0.length := by omega
  have hm2 : m ≤ 80 := by omega
  have hme : min (L0.length : Int) 80 = (m : Int) := by omega
  have hmuc : (m : Int) ≤ uc := by omega
  have hs0 := bds_take HU0.out m hm1
  have hle : (L0.take m).length = m := by rw [List.length_take]; omega
  have HU := Lib.hid hs0
  clear hs0 hmd HU0
  go_wp2_with (refine Agg.min2 _ _ _ (m : Int) rfl rfl rfl rfl hme ?_; simp only [Act.put, List.setIfInBounds_toArray, List.set_cons_succ, List.set_cons_zero])
  obtain ⟨L, hL⟩ : ∃ L, L0.take m = L := ⟨_, rfl⟩
  have HLT := Lib.hid hL
  have HRW : Hid (∀ r ∈ L, Rw r) := Lib.hid fun r hr => HRL.out r (List.mem_of_mem_take (hL ▸ hr))
  rw [hL] at HU hle
  subst hle
  clear hme hL HRL
  obtain ⟨q, hq⟩ : ∃ q, checkB L = q := ⟨_, rfl⟩
  have HQ := Lib.hid hq
  clear hq
  cases q
  · refine (longestX_any L _ w2 HU.out 0 180 (longP_no HQ.out)).mono ?_
    rintro e w3 ⟨rfl, hb⟩
    replace HB := Lib.hid (HB.out.trans (hb.mono HB.out.size))
    replace HL := Lib.hid (HL.out.keep hb)
    replace HU := Lib.hid (HU.out.keep hb)
    clear hb
    go_wp2_with fail
    refine (cut_any L _ w3 HU.out false HQ.out).mono ?_
    rintro e w4 ⟨c1, rfl, hc1, hb⟩
    replace HB := Lib.hid (HB.out.trans (hb.mono HB.out.size))
    replace HL := Lib.hid (HL.out.keep hb)
    replace HU := Lib.hid (HU.out.keep hb)
    clear hb
    obtain rfl := CutV.no.1 hc1
    clear hc1
    go_wp2_with fail
    refine (right_any L _ w4 HU.out false HQ.out).mono ?_
    rintro e w5 ⟨rfl, hb⟩
    replace HB := Lib.hid (HB.out.trans (hb.mono HB.out.size))
    replace HL := Lib.hid (HL.out.keep hb)
    replace HU := Lib.hid (HU.out.keep hb)
    clear hb
    go_wp2_with fail
    go_ret
    exact ⟨rfl, HB.out⟩
  · have hck := check_len HQ.out
    have hL1 := hck.1
    have HOK := Lib.hid hck.2.2.2
    clear hck
    have hcl := cut_len HOK.out
    have HMEM := Lib.hid (cut_mem L.length L (Nat.le_refl _) HOK.out)
    have hnl := longest_le HOK.out
    have hlp := longP_yes HQ.out
    obtain ⟨n, hn⟩ : ∃ n, (longest L).2 = n := ⟨_, rfl⟩
    rw [hn] at hlp hnl
    have HN := Lib.hid hn
    have HLP := Lib.hid hlp
    clear hn hlp
    refine (longestX_any L _ w2 HU.out n 0 HLP.out).mono ?_
    rintro e w6 ⟨rfl, hb⟩
    replace HB := Lib.hid (HB.out.trans (hb.mono HB.out.size))
    replace HL := Lib.hid (HL.out.keep hb)
    replace HU := Lib.hid (HU.out.keep hb)
    clear hb
    go_wp2_with fail
    refine (cut_any L _ w6 HU.out true HQ.out).mono ?_
    rintro e w7 ⟨c1, rfl, hc1, hb⟩
    replace HB := Lib.hid (HB.out.trans (hb.mono HB.out.size))
    replace HL := Lib.hid (HL.out.keep hb)
    replace HU := Lib.hid (HU.out.keep hb)
    clear hb
    have HT := Lib.hid (tms_nC (ownSl (CutV.yes.1 hc1)))
    obtain ⟨c1x, c1c, rfl, _, _⟩ := (ownSl (CutV.yes.1 hc1)).shape
    clear hc1
    obtain ⟨C, hC⟩ : ∃ C, cut L = C := ⟨_, rfl⟩
    have HC := Lib.hid hC
    rw [hC] at HT hcl HMEM ⊢
    clear hC
    go_wp2_with fail
    refine (right_any L _ w7 HU.out true HQ.out).mono ?_
    rintro e w8 ⟨rfl, hb⟩
    replace HB := Lib.hid (HB.out.trans (hb.mono HB.out.size))
    replace HL := Lib.hid (HL.out.keep hb)
    replace HU := Lib.hid (HU.out.keep hb)
    replace HT := Lib.hid (HT.out.keep hb)
    clear hb
    go_wp2_with fail
    refine (rlong_any L _ w8 HU.out HOK.out (by omega) n HN.out).mono ?_
    rintro e w9 ⟨rfl, hb⟩
    replace HB := Lib.hid (HB.out.trans (hb.mono HB.out.size))
    replace HL := Lib.hid (HL.out.keep hb)
    replace HU := Lib.hid (HU.out.keep hb)
    replace HT := Lib.hid (HT.out.keep hb)
    clear hb
    go_wp2_with fail
    refine (rcut_any L _ w9 HU.out HOK.out (by omega) C HC.out).mono ?_
    rintro e w10 ⟨c2, rfl, hc2, hb⟩
    replace HB := Lib.hid (HB.out.trans (hb.mono HB.out.size))
    replace HL := Lib.hid (HL.out.keep hb)
    replace HU := Lib.hid (HU.out.keep hb)
    replace HT := Lib.hid (HT.out.keep hb)
    clear hb
    have HT2 := Lib.hid (tms_nC (ownSl hc2))
    obtain ⟨c2x, c2c, rfl, _, _⟩ := (ownSl hc2).shape
    clear hc2
    have HCI : Hid (∀ b ∈ C.map fun n : Nat => (n : Int), I64 b) := Lib.hid fun b hb => by
      obtain ⟨n, h1, rfl⟩ := List.mem_map.1 hb
      have := HMEM.out n h1
      unfold I64; omega
    go_wp2_with fail
    refine (eqI_any (C.map fun n : Nat => (n : Int)) (C.map fun n : Nat => (n : Int)) _ _ w10 HT.out HT2.out HCI.out HCI.out true (by simp)).mono ?_
    rintro e w11 ⟨rfl, hb⟩
    replace HB := Lib.hid (HB.out.trans (hb.mono HB.out.size))
    replace HL := Lib.hid (HL.out.keep hb)
    replace HU := Lib.hid (HU.out.keep hb)
    replace HT := Lib.hid (HT.out.keep hb)
    replace HT2 := Lib.hid (HT2.out.keep hb)
    clear hb
    go_wp2_with fail
    refine (HFE.out w11 HL.out).mono ?_
    rintro e w12 ⟨u2, rfl, hu2, hb⟩
    replace HB := Lib.hid (HB.out.trans (hb.mono HB.out.size))
    replace HL := Lib.hid (HL.out.keep hb)
    replace HU := Lib.hid (HU.out.keep hb)
    replace HT := Lib.hid (HT.out.keep hb)
    replace HT2 := Lib.hid (HT2.out.keep hb)
    clear hb
    have HU2 : Hid (Bds w12 u2 L0) := Lib.hid (own_bds hu2)
    clear hu2
    obtain ⟨vx, vc, rfl, hvc, _⟩ := SlR.shape HU2.out
    have HU3 := Lib.hid (bds_take HU2.out L.length hm1)
    rw [HLT.out] at HU3
    have hlv : (L.length : Int) ≤ vc := by omega
    go_wp2_with fail
    refine (equalBd_any L L _ _ w12 HU.out HU3.out HRW.out HRW.out true (by simp)).mono ?_
    rintro e w13 ⟨rfl, hb⟩
    replace HB := Lib.hid (HB.out.trans (hb.mono HB.out.size))
    replace HU := Lib.hid (HU.out.keep hb)
    replace HU3 := Lib.hid (HU3.out.keep hb)
    clear hb
    go_wp2_with fail
    go_ret
    exact ⟨rfl, HB.out⟩
theorem PmcCuts_walk (v : Value) (f : Nat) (w : World) (h : Agg.Good Try.prog w f 22 [v]) :
    Calls Try.prog 4 #[v] w fun e w' => e = .returned (.bool true) ∧ Below w.heap.size w w' := by
  obtain ⟨l, h3, h4⟩ := good_bands h
  exact cuts_walk l v w h3 h4
end Go.Proofs.Ytchpkgneloiidaa
end
section
/-
  BINARY DIGITS, in plain Lean: a number's digits from the lowest on, without noughts at the end.
-/
namespace Wd
open Go Go.RowKit Agg

def digs (n : Nat) : List Nat := if h : n = 0 then [] else (n % 2) :: digs (n / 2)
termination_by n
decreasing_by omega
def val : List Nat → Nat
  | [] => 0
  | d :: r => d + 2 * val r
theorem digs_zero : digs 0 = [] := by rw [digs]; simp
theorem digs_pos {n : Nat} (h : 0 < n) : digs n = (n % 2) :: digs (n / 2) := by
  rw [digs]; simp [show ¬ n = 0 by omega]
theorem val_digs (n : Nat) : val (digs n) = n := by
  induction n using Nat.strongRecOn with
  | _ n ih =>
    rcases Nat.eq_zero_or_pos n with h | h
    · subst h; rw [digs_zero]; rfl
    · rw [digs_pos h, val, ih (n / 2) (by omega)]; omega
theorem digs_lt (n : Nat) : ∀ d ∈ digs n, d < 2 := by
  induction n using Nat.strongRecOn with
  | _ n ih =>
    rcases Nat.eq_zero_or_pos n with h | h
    · subst h; rw [digs_zero]; simp
    · rw [digs_pos h]
      intro d hd
      rcases List.mem_cons.1 hd with rfl | hd
      · omega
      · exact ih (n / 2) (by omega) d hd
theorem val_lt (l : List Nat) (h : ∀ d ∈ l, d < 2) : val l < 2 ^ l.length := by
  induction l with
  | nil => simp [val]
  | cons d r ih =>
    have h1 := h d (by simp)
    have h2 := ih (fun x hx => h x (by simp [hx]))
    rw [val, List.length_cons, Nat.pow_succ]; omega
theorem canon (l : List Nat) (h : ∀ d ∈ l, d < 2) (hc : l = [] ∨ 2 ^ (l.length - 1) ≤ val l) : digs (val l) = l := by
  induction l with
  | nil => exact digs_zero
  | cons d r ih =>
    have h1 := h d (by simp)
    have hc2 := hc.resolve_left (by simp)
    rw [val] at hc2 ⊢
    cases r with
    | nil =>
      simp only [val, List.length_cons, List.length_nil] at hc2 ⊢
      obtain rfl : d = 1 := by omega
      rw [digs_pos (by decide)]
      show 1 % 2 :: digs 0 = [1]
      rw [digs_zero]
    | cons e s =>
      have hr : 2 ^ ((e :: s).length - 1) ≤ val (e :: s) := by
        simp only [List.length_cons, Nat.add_sub_cancel] at hc2 ⊢
        rw [Nat.pow_succ] at hc2
        omega
      have ihr := ih (fun x hx => h x (by simp [hx])) (.inr hr)
      have hp : 0 < 2 ^ ((e :: s).length - 1) := Nat.pow_pos (by decide)
      rw [digs_pos (by omega), show (d + 2 * val (e :: s)) % 2 = d by omega, show (d + 2 * val (e :: s)) / 2 = val (e :: s) by omega, ihr]
theorem digs_low {n : Nat} (h : 0 < n) : 2 ^ ((digs n).length - 1) ≤ n := by
  induction n using Nat.strongRecOn with
  | _ n ih =>
    rw [digs_pos h]
    rcases Nat.eq_zero_or_pos (n / 2) with h2 | h2
    · rw [h2, digs_zero]; simp; omega
    · have := ih (n / 2) (by omega) h2
      have hl : 0 < (digs (n / 2)).length := by rw [digs_pos h2]; simp
      obtain ⟨k, hk⟩ : ∃ k, (digs (n / 2)).length = k + 1 := ⟨(digs (n / 2)).length - 1, by omega⟩
      rw [hk] at this
      rw [List.length_cons, hk]
      simp only [Nat.add_sub_cancel] at this ⊢
      rw [Nat.pow_succ]; omega
theorem digs_high (n : Nat) : n < 2 ^ (digs n).length := by
  have := val_lt _ (digs_lt n)
  rwa [val_digs] at this
theorem digs_len {n k : Nat} (h : n < 2 ^ k) : (digs n).length ≤ k := by
  rcases Nat.eq_zero_or_pos n with h0 | h0
  · subst h0; rw [digs_zero]; simp
  · have h1 := digs_low h0
    apply Classical.byContradiction
    intro hlt
    have : 2 ^ k ≤ 2 ^ ((digs n).length - 1) := Nat.pow_le_pow_right (by decide) (by omega)
    omega
theorem digs_nil {n : Nat} : digs n = [] ↔ n = 0 := by
  constructor
  · intro h
    have := val_digs n
    rw [h] at this
    exact this.symm
  · rintro rfl; exact digs_zero
theorem len_lt {a b : Nat} (h : (digs a).length < (digs b).length) : a < b := by
  have h1 := digs_high a
  have hb : 0 < b := by
    rcases Nat.eq_zero_or_pos b with h0 | h0
    · subst h0; rw [digs_zero] at h; simp at h
    · exact h0
  have h2 := digs_low hb
  have : 2 ^ (digs a).length ≤ 2 ^ ((digs b).length - 1) := Nat.pow_le_pow_right (by decide) (by omega)
  omega
theorem val_snoc (l : List Nat) (d : Nat) : val (l ++ [d]) = val l + 2 ^ l.length * d := by
  induction l with
  | nil => simp [val]
  | cons a r ih =>
    rw [List.cons_append, val, ih, val, List.length_cons, Nat.pow_succ]
    rw [Nat.mul_add, ← Nat.mul_assoc, Nat.mul_comm 2 (2 ^ r.length)]; omega
theorem val_drop (l : List Nat) (i : Nat) (h : i < l.length) : val (l.drop i) = l[i] + 2 * val (l.drop (i + 1)) := by
  rw [← List.getElem_cons_drop h, val]
theorem val_drop_none (l : List Nat) (i : Nat) (h : l.length ≤ i) : val (l.drop i) = 0 := by
  rw [List.drop_eq_nil_of_le h]; rfl
theorem val_cut (l : List Nat) (i : Nat) (h : i ≤ l.length) : val l = val (l.take i) + 2 ^ i * val (l.drop i) := by
  induction i generalizing l with
  | zero => simp [val]
  | succ i ih =>
    cases l with
    | nil => simp at h
    | cons a r =>
      have := ih r (by simpa using h)
      rw [List.take_succ_cons, List.drop_succ_cons, val, val, this, Nat.pow_succ, Nat.mul_add, ← Nat.mul_assoc, Nat.mul_comm 2 (2 ^ i)]; omega
theorem mem_lt {l : List Nat} (h : ∀ d ∈ l, d < 2) (i : Nat) (hi : i < l.length) : l[i] < 2 := h _ (List.getElem_mem hi)
/-- digits as cells -/
def iD (l : List Nat) : List Value := l.map fun d : Nat => Value.int .i64 (d : Int)
theorem iD_length (l : List Nat) : (iD l).length = l.length := by simp [iD]
theorem iD_append (l m : List Nat) : iD (l ++ m) = iD l ++ iD m := List.map_append
theorem iD_one (l : List Nat) : ∀ u ∈ iD l, u.oneCell' = true := by
  intro u hu
  obtain ⟨d, _, rfl⟩ := List.mem_map.1 hu
  rfl
theorem iD_get (l : List Nat) (i : Nat) (h : i < l.length) : (iD l)[i]? = some (.int .i64 (l[i] : Int)) := by simp [iD, h]
/-- a number's digits in memory -/
abbrev NB (w : World) (v : Value) (n : Nat) : Prop := SlR w v 1 (digs n).length (iD (digs n))
end Wd
end
section
/-
  THE DOCUMENT's NUMBERS (layer 1): a number's digits, trim, less.
-/
namespace Go.Proofs.Ytchpkgneloiidaa
open Go.ChangeShapes Go.WideShapes Go.ChangeAt Go.RowKit Agg Wd

theorem tiN : TI Try.prog 43 3 1 8 (.int .i64 0) := ⟨by kernel_rfl, by kernel_rfl, rfl, by decide⟩
theorem NB.cellAt {w : World} {b o n cap : Nat} {l : List Nat} (h : SlR w (.slice (some ⟨b, o, none⟩) n cap) 1 l.length (iD l)) {k : Nat} (hk : k < l.length) : w.cell? ⟨b, o + k, none⟩ = some (.int .i64 (l[k] : Int)) := by
  obtain ⟨b', o', cap', hv, _, _, hc, _⟩ := h.pos (by decide) (by omega)
  simp only [Value.slice.injEq, Option.some.injEq, Addr.mk.injEq, and_true] at hv
  obtain ⟨⟨rfl, rfl⟩, _⟩ := hv
  exact hc k _ (iD_get l k hk)
/-- what a cell holds -/
def CellIs (w : World) (a : Addr) (v : Value) : Prop := w.cell? a = some v
theorem CellIs.keep {w w' : World} {a : Addr} {v : Value} (h : CellIs w a v) (hb : Below w.heap.size w w') : CellIs w' a v := cell_keep hb h
/-- an integer of another kind, what it comes to told -/
theorem gInt {P : Program} {w : World} {o : Oper} {Q : Exit → Act → World → Prop} {ops : Array Oper} {rest : List Oper} {a : Act} {s d : TypeId} {x : Operand} {k k' : IntKind} {m : Int} (r : Int) (hg : o.guard = none) (ho : o.op = .convert s d x) (hx : a.eval x = .int k m)
    (hs : P.underlying s = some (.int k)) (hd : P.underlying d = some (.int k')) (hr : k'.wrap m = r) (h : wpList P ops Q rest (a.put o.dst (.int k' r)) w) : wpList P ops Q (o :: rest) a w := by
  subst hr
  refine Agg.run hg _ w ?_ h
  have h2 : (convert s d (.int k m)).run P w = .ok (.int k' (k'.wrap m)) w := by
    simp [convert, run_underlying hs, run_underlying hd, Conv.intToInt]
  simp only [execOp, ho, hx, h2, Sem.run_bind, Result.andThen_ok, Sem.run_pure]
set_option maxHeartbeats 2000000 in
set_option maxRecDepth 100000 in
theorem size_any (n : Nat) (hn : n < 18446744073709551616) (w : World) :
    Calls Try.prog 54 #[.int .u64 (n : Int)] w fun e w' => ∃ v, e = .returned v ∧ NB w' v n ∧ Below w.heap.size w w' := by
  have hd64 : (digs n).length ≤ 64 := digs_len (by simpa using hn)
  have HD := Lib.hid hd64
  clear hd64
  have HN := Lib.hid hn
  clear hn
  have HB := Lib.hid (Below.refl w.heap.size w)
  go_enter Try.func54, Try.ntmps54
  go_wp2_with fail
  go_loopw [0, 3] (fun u v wr => ∃ (m : Nat) (l : List Nat), m ≤ n ∧ u = .int .u64 m ∧ l ++ digs m = digs n ∧ wr.ownsRow w.heap.size 3 1 v l.length (iD l) ∧ Below w.heap.size w wr) (fun u _ _ => (intOf u).toNat)
  case atStart => exact ⟨n, [], Nat.le_refl _, rfl, rfl, World.ownsRow_nil _ _ _ _, HB.out⟩
  case round =>
    obtain ⟨m, l, hm, rfl, hl, ho, hb⟩ := hrel
    replace HB := Lib.hid hb
    have HO := Lib.hid ho
    have HL := Lib.hid hl
    obtain ⟨x, c, rfl, _, _⟩ := (ownSl ho).shape
    clear hb ho hl
    by_cases h0 : (m : Int) > 0
    · have hdp := digs_pos (n := m) (by omega)
      have hll : l.length ≤ 64 := by
        have := HD.out
        rw [← HL.out, List.length_append] at this; omega
      have HE : Hid ((l ++ [m % 2]) ++ digs (m / 2) = digs n) := by
        show _ = _
        rw [← HL.out, hdp]; simp
      have hob := HO.out.keep ((Below.refl _ wr).alloc (Nat.le_refl _) (.cells #[.int .i64 ((m % 2 : Nat) : Int)] 3))
      have hsl := sl_new wr #[.int .i64 ((m % 2 : Nat) : Int)] 3 1 1 rfl (by decide)
      have hsz := HB.out.size
      have hm2 : IntKind.i64.wrap ((m : Int) % 2) = ((m % 2 : Nat) : Int) := by rw [IntKind.wrap_i64]; omega
      clear hdp
      go_wp2_with (first
        | (refine gInt ((m % 2 : Nat) : Int) rfl rfl rfl Try.underlying80 Try.underlying3 hm2 ?_; simp only [Act.put, List.setIfInBounds_toArray, List.set_cons_succ, List.set_cons_zero])
        | (refine Agg.append2 tiN _ _ rfl rfl w.heap.size rfl hob rfl hsl (by simp [Value.oneCell']) (by unfold maxLen; omega) (by omega) (by simp only [World.size_alloc]; omega) ?_; intro v3 w3 ho3 hg3 _; simp only [Act.put, List.setIfInBounds_toArray, List.set_cons_succ, List.set_cons_zero]))
      have hw : IntKind.u64.wrap ((m : Int) / 2) = ((m / 2 : Nat) : Int) := by have := HN.out; rw [IntKind.wrap_u64]; omega
      have hbw : Below w.heap.size w w3 := (HB.out.alloc hsz _).trans (grown_below hg3 (by simp only [World.size_alloc]; omega) (own_block hob))
      rw [hw]
      refine ⟨⟨m / 2, l ++ [m % 2], by omega, rfl, HE.out, ?_, hbw⟩, by simp only [intOf]; omega⟩
      rw [List.length_append, iD_append]; exact ho3
    · obtain rfl : m = 0 := by omega
      have hl0 : l = digs n := by have := HL.out; rwa [digs_zero, List.append_nil] at this
      subst hl0
      go_wp2_with fail
      go_ret
      exact ⟨_, rfl, ownSl HO.out, HB.out⟩
set_option maxHeartbeats 2000000 in
set_option maxRecDepth 100000 in
/-- digits without noughts at the end -/
theorem trim_any (l : List Nat) (hl : ∀ d ∈ l, d < 2) (hlen : l.length ≤ 1000) (v : Value) (w : World) (hv : SlR w v 1 l.length (iD l)) :
    Calls Try.prog 62 #[v] w fun e w' => ∃ u, e = .returned u ∧ NB w' u (val l) ∧ Below w.heap.size w w' := by
  obtain ⟨x, cap, rfl, hcap, hmax⟩ := hv.shape
  unfold maxLen at hmax
  have HV := Lib.hid hv
  have HL := Lib.hid hl
  clear hv hl
  have HB := Lib.hid (Below.refl w.heap.size w)
  go_enter Try.func62, Try.ntmps62
  go_wp2_with fail
  go_loopw [3] (fun i wr => ∃ k : Nat, k ≤ l.length ∧ i = .int .i64 k ∧ val (l.take k) = val l ∧ Below w.heap.size w wr) (fun i _ => (intOf i).toNat)
  case atStart => exact ⟨l.length, Nat.le_refl _, rfl, by rw [List.take_length], HB.out⟩
  case round =>
    obtain ⟨k, hk, rfl, hq, hb⟩ := hrel
    replace HB := Lib.hid hb
    have HQ := Lib.hid hq
    have HV2 := Lib.hid (HV.out.keep hb)
    clear hb hq
    have fin : ∀ wr, SlR wr (.slice x l.length cap) 1 l.length (iD l) → (k = 0 ∨ ∃ h : k - 1 < l.length, l[k - 1] ≠ 0) → NB wr (.slice x k cap) (val l) := by
      intro wr hs hd
      have ht := hs.take k hk
      rw [Nat.mul_one] at ht
      have e : (iD l).take k = iD (l.take k) := by simp [iD]
      rw [e] at ht
      have hc : digs (val (l.take k)) = l.take k := by
        refine canon _ (fun d hd => HL.out d (List.mem_of_mem_take hd)) ?_
        rcases hd with h0 | ⟨h1, h2⟩
        · left; subst h0; rfl
        · by_cases hk0 : k = 0
          · left; subst hk0; rfl
          · right
            obtain ⟨j, rfl⟩ : ∃ j, k = j + 1 := ⟨k - 1, by omega⟩
            simp only [Nat.add_sub_cancel] at h1 h2
            rw [List.length_take, Nat.min_eq_left hk, Nat.add_sub_cancel, List.take_succ_eq_append_getElem h1, val_snoc, List.length_take, Nat.min_eq_left (by omega)]
            have : 1 ≤ l[j] := by omega
            exact Nat.le_trans (by rw [Nat.mul_comm]; exact Nat.le_mul_of_pos_left _ this) (Nat.le_add_left _ _)
      show SlR _ _ _ _ _
      rw [← HQ.out, hc, List.length_take, Nat.min_eq_left hk]
      exact ht
    have HF := Lib.hid fin
    clear fin
    by_cases h0 : (k : Int) > 0
    · obtain ⟨b, o, cap', hve, _, _, hcs, _⟩ := HV2.out.pos (by decide) (by omega)
      simp only [Value.slice.injEq, true_and] at hve
      obtain ⟨rfl, rfl⟩ := hve
      have hkl : k - 1 < l.length := by omega
      have hc : wr.cell? ⟨b, o + (k - 1), none⟩ = some (.int .i64 (l[k - 1] : Int)) := hcs (k - 1) _ (iD_get l (k - 1) hkl)
      have HS : Hid (l[k - 1] = 0 → val (l.take (k - 1)) = val l) := by
        refine Lib.hid (fun hz => ?_)
        rw [← HQ.out]
        obtain ⟨j, rfl⟩ : ∃ j, k = j + 1 := ⟨k - 1, by omega⟩
        simp only [Nat.add_sub_cancel] at hz hkl ⊢
        rw [List.take_succ_eq_append_getElem hkl, val_snoc, hz, Nat.mul_zero, Nat.add_zero]
      by_cases hz : l[k - 1] = 0
      · have HZ := Lib.hid (HS.out hz)
        have hzb : ((l[k - 1] : Int) == 0) = true := by simp [hz]
        clear hz HS hcs
        go_wp2_with fail
        go_roundw
        case rel => exact ⟨k - 1, by omega, by congr 1; omega, HZ.out, HB.out⟩
        case measure => simp only [intOf]; omega
      · have HZ := Lib.hid (HF.out wr HV2.out (.inr ⟨hkl, hz⟩))
        have hzb : ((l[k - 1] : Int) == 0) = false := by simp [hz]
        have hkc : (k : Int) ≤ cap := by omega
        clear hz HS hcs
        go_wp2_with fail
        go_ret
        exact ⟨_, rfl, HZ.out, HB.out⟩
    · obtain rfl : k = 0 := by omega
      have HZ := Lib.hid (HF.out wr HV2.out (.inl rfl))
      go_wp2_with fail
      go_ret
      exact ⟨_, rfl, HZ.out, HB.out⟩
end Go.Proofs.Ytchpkgneloiidaa
end
