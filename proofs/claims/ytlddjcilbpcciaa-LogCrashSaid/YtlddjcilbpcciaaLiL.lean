/-
  THE LOG: what LogCrash asks (plain).
-/
import Derived.Test.YtlddjcilbpcciaaLhQ
import Derived.Test.YtlddjcilbpcciaaLFdDw1
section
namespace Go.Proofs.Ytlddjcilbpcciaa
open Go.ChangeShapes Go.WideShapes Go.ChangeAt Go.RowKit Agg Pg Dv Lg

def fzD (d : Dev) (z : Int) : Dev := { d with fuse := z }
def offG (d : Dev) : Dev := { d with fuse := -1, off := true }
structure LitG (e : Dev) (z : Nat) : Prop where
  right : rightD e = true
  off : e.off = false
  fuse : e.fuse = z
theorem burn_zeroG {e : Dev} (h : LitG e 0) : burnD e = offG e := by
  obtain ⟨P, l, z, q⟩ := e
  have := h.fuse
  simp only [Int.natCast_zero] at this
  subst this
  rfl
theorem burn_succG {e : Dev} {z : Nat} (h : LitG e (z + 1)) : burnD e = fzD e z := by
  obtain ⟨P, l, y, q⟩ := e
  have h1 := h.fuse
  have h2 := h.off
  simp only at h1 h2
  subst h1; subst h2
  unfold burnD burnF fzD
  dsimp only
  rw [if_neg (by omega), if_pos (by omega)]
  simp
theorem right_fz {e : Dev} (h : rightD e = true) (ho : e.off = false) {z : Int} (h1 : 0 ≤ z) (h2 : z ≤ 10000) : rightD (fzD e z) = true := by
  obtain ⟨b1, b2, b3, b4, b5, b6⟩ := right_six h
  exact right_of b1 b2 (show -1 ≤ z by omega) h2 (fun hh => absurd (ho.symm.trans hh) (by decide)) b6
theorem right_offG {e : Dev} (h : rightD e = true) : rightD (offG e) = true := by
  obtain ⟨b1, b2, b3, b4, b5, b6⟩ := right_six h
  exact right_of b1 b2 (show (-1 : Int) ≤ -1 by decide) (show (-1 : Int) ≤ 10000 by decide) (fun _ => rfl) b6
theorem put_litG0 {e : Dev} (h : LitG e 0) {k : Int} (hk : thereB e.pages.length k = true) (b : List Sec) : goesP e (putP e k b) = (10, offG e) := by
  have : putP e k b = (10, offG e) := by rw [putP, if_neg (by rw [hk]; decide), burn_zeroG h, if_pos (show (offG e).off = true from rfl)]
  rw [this, goesP_on h.right h.off (.inr rfl)]
theorem put_litGS {e : Dev} {z : Nat} (h : LitG e (z + 1)) {k : Int} (hk : thereB e.pages.length k = true) (b : List Sec) : goesP e (putP e k b) = (0, fzD (addD e [(k, b)]) z) ∧ LitG (fzD (addD e [(k, b)]) z) z := by
  have hz : ((z + 1 : Nat) : Int) ≤ 10000 := by rw [← h.fuse]; exact (right_six h.right).2.2.2.1
  have e1 : putP e k b = (0, fzD (addD e [(k, b)]) z) := by
    rw [putP, if_neg (by rw [hk]; decide), burn_succG h, if_neg (by show ¬ e.off = true; rw [h.off]; decide)]; rfl
  refine ⟨by rw [e1, goesP_on h.right h.off (.inl rfl)], ?_, h.off, rfl⟩
  refine right_fz (e := addD e [(k, b)]) (z := (z : Int)) (right_keep h.right rfl rfl rfl (fun x hx => ?_)) h.off (by omega) (by omega)
  rcases List.mem_append.1 hx with hx | hx
  · exact (right_six h.right).2.2.2.2.2 x hx
  · rw [List.mem_singleton.1 hx]; exact hk
theorem puts_litG : ∀ (l : List (Int × List Sec)) {e : Dev} {z : Nat}, LitG e z → (∀ x ∈ l, thereB e.pages.length x.1 = true) →
    (l.length ≤ z → putsP e l = (0, fzD (addD e l) ((z - l.length : Nat) : Int)) ∧ LitG (fzD (addD e l) ((z - l.length : Nat) : Int)) (z - l.length)) ∧ (z < l.length → putsP e l = (10, offG (addD e (l.take z))))
  | [], e, z, h, _ => by
    refine ⟨fun _ => ?_, fun hh => absurd hh (by simp)⟩
    have : fzD (addD e []) ((z - ([] : List (Int × List Sec)).length : Nat) : Int) = e := by
      rw [addD_nil]
      obtain ⟨P, l, y, q⟩ := e
      have := h.fuse
      simp only at this
      subst this
      rfl
    rw [this]
    exact ⟨rfl, h⟩
  | x :: l, e, 0, h, hl => by
    refine ⟨fun hh => absurd hh (by simp), fun _ => ?_⟩
    rw [putsP, put_litG0 h (hl x (by simp)), if_pos (show (10 : Int) ≠ 0 by decide), List.take_zero, addD_nil]
  | x :: l, e, z + 1, h, hl => by
    obtain ⟨h1, h2⟩ := put_litGS h (hl x (by simp)) x.2
    obtain ⟨ih1, ih2⟩ := puts_litG l h2 (fun y hy => hl y (by simp [hy]))
    rw [putsP, h1, if_neg (show ¬ (0 : Int) ≠ 0 by decide), List.length_cons]
    have ea : ∀ m : List (Int × List Sec), addD (fzD (addD e [(x.1, x.2)]) z) m = fzD (addD e (x :: m)) z := fun m => by
      unfold addD fzD; simp
    refine ⟨fun hh => ?_, fun hh => ?_⟩
    · obtain ⟨i1, i2⟩ := ih1 (by omega)
      rw [ea] at i1 i2
      rw [show z + 1 - (l.length + 1) = z - l.length by omega]
      exact ⟨i1, i2⟩
    · rw [ih2 (by omega), ea, List.take_succ_cons]; rfl
theorem flush_litG0 {e : Dev} (h : LitG e 0) : goesP e (flushP e) = (10, offG e) := by
  have : flushP e = (10, offG e) := by rw [flushP, burn_zeroG h, if_pos (show (offG e).off = true from rfl)]
  rw [this, goesP_on h.right h.off (.inr rfl)]
theorem flush_litGS {e : Dev} {z : Nat} (h : LitG e (z + 1)) : goesP e (flushP e) = (0, fzD (flD e) z) := by
  have : flushP e = (0, fzD (flD e) z) := by
    rw [flushP, burn_succG h, if_neg (by show ¬ e.off = true; rw [h.off]; decide)]; rfl
  rw [this, goesP_on h.right h.off (.inl rfl)]
/-- the device that is cut -/
def cutD (d : Dev) (a n : Nat) (B : List UInt8) (z : Nat) : Dev := if z ≤ mG B then offG (addD d ((wrsG a n B (mG B) (mG B)).take z)) else fzD (putD d a n B) 0
theorem lit_okG {d : Dev} (h : Fresh d) {z : Nat} (hz : z ≤ 1000) : goesP d (lightP d z) = (0, fzD d z) ∧ LitG (fzD d z) z := by
  have e : lightP d z = (0, fzD d z) := by unfold lightP; rw [if_pos ⟨by omega, by omega⟩]; rfl
  exact ⟨by rw [e, goesP_on h.pow.1 h.pow.2.1 (.inl rfl)], right_fz h.pow.1 h.pow.2.1 (by omega) (by omega), h.pow.2.1, rfl⟩
theorem put_cut {d : Dev} (h : Fresh d) {a n z : Nat} {B : List UInt8} (hB : B ≠ []) (ha : a + mG B ≤ 16) (hn : 1 ≤ n) (hn2 : n + mG B ≤ 4611686018427387905) (hz : z ≤ mG B + 1) : putG (fzD d z) a n B = (if z ≤ mG B then 10 else 0, cutD d a n B z) := by
  obtain ⟨_, hL⟩ := lit_okG h (z := z) (by omega)
  have hBl : B.length ≠ 0 := fun e => hB (List.eq_nil_of_length_eq_zero e)
  have hm := mG_eq B
  have hm1 := need_pos hB
  have ha0 : askL (fzD d z) = 0 := by unfold askL; rw [hL.right, hL.off]; rfl
  have hw : whyG (a : Int) n B = 0 := by
    unfold whyG
    rw [if_neg (by omega), if_neg (by omega), if_neg (by omega)]
  have hth := wrsG_there a n B (mG B) (mG B) d.pages.length (by rw [h.len]; omega)
  obtain ⟨h1, h2⟩ := puts_litG (wrsG a n B (mG B) (mG B)) hL hth
  rw [wrsG_length] at h1 h2
  unfold putG
  rw [ha0, hw, if_neg (by decide), if_neg (by decide), if_neg (by decide), Int.toNat_natCast]
  by_cases hz1 : z < mG B
  · rw [h2 hz1, if_pos (show (10 : Int) ≠ 0 by decide), if_pos (by omega)]
    unfold cutD
    rw [if_pos (by omega)]
    rfl
  · obtain ⟨i1, i2⟩ := h1 (by omega)
    rw [i1, if_neg (show ¬ (0 : Int) ≠ 0 by decide)]
    dsimp only
    by_cases hz2 : z = mG B
    · subst hz2
      rw [Nat.sub_self] at i2 ⊢
      rw [flush_litG0 i2, if_pos (Nat.le_refl _)]
      unfold cutD
      rw [if_pos (Nat.le_refl _), List.take_of_length_le (by rw [wrsG_length]; exact Nat.le_refl _)]
      rfl
    · have e1 : z - mG B = 0 + 1 := by omega
      rw [e1] at i2 ⊢
      rw [flush_litGS i2, if_neg (by omega)]
      unfold cutD
      rw [if_neg (by omega)]
      rfl
/-- .. and back -/
def backD (d : Dev) (a n : Nat) (B : List UInt8) (z : Nat) (ms : List Int) : Dev := if z ≤ mG B then ⟨settleBy d.pages ((wrsG a n B (mG B) (mG B)).take z) ms, [], -1, false⟩ else putD d a n B
theorem crash_cut {d : Dev} (h : Fresh d) {a n z : Nat} {B : List UInt8} (hB : B ≠ []) (ha : a + mG B ≤ 16) (hn : 1 ≤ n) (hn2 : n + mG B ≤ 4611686018427387905) {ms : List Int} (hm : masksB ms = true) : crashP (cutD d a n B z) ms = (0, backD d a n B z ms) ∧ Fresh (backD d a n B z ms) ∧ DGood (cutD d a n B z) := by
  have hth := wrsG_there a n B (mG B) (mG B) d.pages.length (by rw [h.len]; omega)
  unfold cutD backD
  by_cases hz : z ≤ mG B
  · rw [if_pos hz, if_pos hz]
    have hth2 : ∀ x ∈ (wrsG a n B (mG B) (mG B)).take z, thereB d.pages.length x.1 = true := fun x hx => hth x (List.mem_of_mem_take hx)
    have hr : rightD (offG (addD d ((wrsG a n B (mG B) (mG B)).take z))) = true := by
      refine right_offG (right_keep h.pow.1 rfl rfl rfl (fun x hx => ?_))
      rcases List.mem_append.1 hx with hx | hx
      · exact (right_six h.pow.1).2.2.2.2.2 x hx
      · exact hth2 x hx
    obtain ⟨c1, c2⟩ := crash_do hr hm
    have e : crD (offG (addD d ((wrsG a n B (mG B) (mG B)).take z))) ms = ⟨settleBy d.pages ((wrsG a n B (mG B) (mG B)).take z) ms, [], -1, false⟩ := by
      unfold crD
      show (⟨settleBy d.pages (d.cache ++ _) ms, [], -1, false⟩ : Dev) = _
      rw [h.cache, List.nil_append]
    rw [e] at c1 c2
    have hg := addD_good h.good (fun x hx => wrsG_bok a n B _ _ x (List.mem_of_mem_take hx)) hth2
    have hok := settleBy_ok h.good.pages ((wrsG a n B (mG B) (mG B)).take z) ms (fun x hx => wrsG_bok a n B _ _ x (List.mem_of_mem_take hx))
    refine ⟨c1, ⟨c2, ⟨hok.2, fun b hb => absurd hb (by simp), fun b hb => absurd hb (by simp), ?_⟩, rfl, hok.1.trans h.len⟩, ⟨hg.pages, hg.cache, hg.nums, hg.np⟩⟩
    show (settleBy _ _ _).length ≤ 1000
    rw [hok.1]; exact h.good.np
  · rw [if_neg hz, if_neg hz]
    obtain ⟨_, hf⟩ := put_fresh h hB ha hn hn2
    have hr : rightD (fzD (putD d a n B) 0) = true := right_fz hf.pow.1 hf.pow.2.1 (by decide) (by decide)
    obtain ⟨c1, c2⟩ := crash_do hr hm
    have e : crD (fzD (putD d a n B) 0) ms = putD d a n B := by
      have e2 : settleBy (putD d a n B).pages [] ms = (putD d a n B).pages := by cases ms <;> rfl
      have h3 := hf.cache
      have h4 := hf.pow.2
      unfold crD
      show (⟨settleBy (putD d a n B).pages (putD d a n B).cache ms, [], -1, false⟩ : Dev) = _
      rw [h3, e2, ← h4.1, ← h4.2]
      generalize putD d a n B = D at *
      obtain ⟨P, l, y, q⟩ := D
      simp only at h3
      rw [h3]
    rw [e] at c1
    exact ⟨c1, hf, ⟨hf.good.pages, hf.good.cache, hf.good.nums, hf.good.np⟩⟩
theorem mix_all {old new : List Sec} {m : Int} {X : Nat} (hn : new.length = 4) (ho : ∀ s ∈ old, s.1 ≤ X) (h : ∀ s ∈ mixB old new m, X < s.1) : mixB old new m = new := by
  have hk : ∀ k, k < 4 → (mixB old new m).getD k (0, []) = new.getD k (0, []) := fun k hk => by
    have h1 := h _ ((mem_getD (mixB_four old new m) _).2 ⟨k, hk, rfl⟩)
    rw [mixB_getD _ _ _ _ hk] at h1 ⊢
    by_cases hb : (m / 2 ^ k) % 2 = 1
    · rw [if_pos hb]
    · rw [if_neg hb] at h1
      exfalso
      have h2 : (old.getD k (0, [])).1 ≤ X := by
        rw [List.getD_eq_getElem?_getD]
        cases hc : old[k]? with
        | none => exact Nat.zero_le _
        | some s => exact ho s (List.mem_of_getElem? hc)
      omega
  have h4 := mixB_four old new m
  generalize mixB old new m = M at *
  match M, h4, new, hn with
  | [a, b, c, d], _, [a', b', c', d'], _ =>
    have e0 := hk 0 (by decide)
    have e1 := hk 1 (by decide)
    have e2 := hk 2 (by decide)
    have e3 := hk 3 (by decide)
    simp at e0 e1 e2 e3
    rw [e0, e1, e2, e3]
theorem mix_some {old new : List Sec} {m : Int} {X : Nat} (hold : old.length = 4) (ho : ∀ s ∈ old, s.1 ≤ X) (h0 : 0 ≤ m) (h16 : m < 16) (h15 : m ≠ 15) : ∃ s ∈ mixB old new m, s.1 ≤ X := by
  have hb : ∃ k : Nat, k < 4 ∧ (m / 2 ^ k) % 2 ≠ 1 := by
    by_cases b0 : (m / 2 ^ 0) % 2 = 1
    · by_cases b1 : (m / 2 ^ 1) % 2 = 1
      · by_cases b2 : (m / 2 ^ 2) % 2 = 1
        · refine ⟨3, by decide, fun b3 => ?_⟩
          simp only [show (2 : Int) ^ 0 = 1 from rfl, show (2 : Int) ^ 1 = 2 from rfl, show (2 : Int) ^ 2 = 4 from rfl, show (2 : Int) ^ 3 = 8 from rfl] at b0 b1 b2 b3
          omega
        · exact ⟨2, by decide, b2⟩
      · exact ⟨1, by decide, b1⟩
    · exact ⟨0, by decide, b0⟩
  obtain ⟨k, hk, hbk⟩ := hb
  refine ⟨(mixB old new m).getD k (0, []), (mem_getD (mixB_four old new m) _).2 ⟨k, hk, rfl⟩, ?_⟩
  rw [mixB_getD _ _ _ _ hk, if_neg hbk]
  exact ho _ ((mem_getD hold _).2 ⟨k, hk, rfl⟩)
/-- did all of it come? -/
def cameB (z m : Nat) (ms : List Int) : Bool := decide (m ≤ z) && (List.range m).all fun i => decide (m < z) || decide (ms[i]? = some 15)
theorem back_far {d : Dev} (h : Fresh d) {a n z : Nat} {B : List UInt8} (ha : a + mG B ≤ 16) (ms : List Int) (hfb : Fresh (backD d a n B z ms)) {q : Nat} (hq : q < 16) (hq2 : q < a ∨ a + mG B ≤ q) : atL (backD d a n B z ms) q = atL d q := by
  rw [at_fresh hfb.cache, at_fresh h.cache]
  unfold backD
  by_cases hz : z ≤ mG B
  · rw [if_pos hz]
    refine settleBy_no _ _ _ _ (by rw [h.len]; omega) (fun x hx => ?_)
    have hx2 := List.mem_of_mem_take hx
    refine ⟨?_, by have := key_ne hx2 hq2; omega⟩
    obtain ⟨i, _, rfl⟩ := List.mem_map.1 hx2
    simp only; omega
  · rw [if_neg hz]
    have h1 := at_put h (n := n) ha q hq
    rw [if_neg (by omega)] at h1
    have h2 : (putD d a n B).cache = [] := rfl
    rw [at_fresh h2, at_fresh h.cache] at h1
    exact h1
theorem back_at {d : Dev} (h : Fresh d) {a n z : Nat} {B : List UInt8} (ha : a + mG B ≤ 16) (ms : List Int) (hfb : Fresh (backD d a n B z ms)) {i : Nat} (hi : i < mG B) : atL (backD d a n B z ms) (a + i) = if mG B < z then layL (partL B (mG B) i) (n + i) else if i < z then came (atL d (a + i)) (layL (partL B (mG B) i) (n + i)) ms[i]? else atL d (a + i) := by
  by_cases hz : z ≤ mG B
  · rw [if_neg (by omega)]
    rw [at_fresh hfb.cache, at_fresh h.cache]
    unfold backD
    rw [if_pos hz]
    obtain ⟨l1, l2, e, hl1, h1, h2⟩ := wrsG_split a n B (mG B) i hi
    by_cases hiz : i < z
    · rw [if_pos hiz]
      have ek : (2 : Int) + (a : Int) + (i : Int) = ((2 + (a + i) : Nat) : Int) := by omega
      rw [ek] at e
      have et : (wrsG a n B (mG B) (mG B)).take z = l1 ++ (((2 + (a + i) : Nat) : Int), layL (partL B (mG B) i) (n + i)) :: l2.take (z - i - 1) := by
        obtain ⟨j, hj⟩ : ∃ j, z - i - 1 = j := ⟨_, rfl⟩
        rw [e, List.take_append, hl1, List.take_of_length_le (by omega), hj, show z - i = j + 1 by omega, List.take_succ_cons]
      have hall : ∀ x ∈ wrsG a n B (mG B) (mG B), 0 ≤ x.1 := fun x hx => by
        obtain ⟨j, _, rfl⟩ := List.mem_map.1 hx
        simp only; omega
      show (settleBy d.pages ((wrsG a n B (mG B) (mG B)).take z) ms).getD (2 + (a + i)) zeroB = _
      rw [et, settleBy_at _ _ _ _ _ _ (by rw [h.len]; omega) (fun x hx => ⟨hall x (by rw [e]; exact List.mem_append_left _ hx), by have := h1 x hx; omega⟩) (fun x hx => ⟨hall x (by rw [e]; exact List.mem_append_right _ (List.mem_cons_of_mem _ (List.mem_of_mem_take hx))), by have := h2 x (List.mem_of_mem_take hx); omega⟩), hl1]
    · rw [if_neg hiz]
      show (settleBy d.pages ((wrsG a n B (mG B) (mG B)).take z) ms).getD (2 + (a + i)) zeroB = _
      refine settleBy_no _ _ _ _ (by rw [h.len]; omega) (fun x hx => ?_)
      obtain ⟨j, hj, rfl⟩ := List.getElem_of_mem hx
      rw [List.length_take, wrsG_length] at hj
      rw [List.getElem_take, wrsG_get]
      simp only
      omega
  · rw [if_pos (by omega)]
    unfold backD
    rw [if_neg hz, at_put h ha (a + i) (by omega), if_pos ⟨by omega, by omega⟩, Nat.add_sub_cancel_left]
theorem back_sec {d : Dev} (h : Fresh d) {a n z X : Nat} {B : List UInt8} (ms : List Int) (hX : SecLe X d.pages) (hn : n + mG B ≤ X + 1) : SecLe X (backD d a n B z ms).pages := by
  unfold backD
  by_cases hz : z ≤ mG B
  · rw [if_pos hz]
    refine settleBy_sec' _ ms hX (fun b hb => (h.good.pages b hb).1) (fun x hx s hs => ?_) (fun x hx => (wrsG_bok a n B _ _ x (List.mem_of_mem_take hx)).1)
    obtain ⟨i, hi, rfl⟩ := List.mem_map.1 (List.mem_of_mem_take hx)
    have h1 := layL_sec hs
    have := List.mem_range.1 hi
    omega
  · rw [if_neg hz]
    exact put_sec h hX hn
theorem came_yes {d : Dev} (h : Fresh d) {a n z : Nat} {B : List UInt8} (hB : B ≠ []) (ha : a + mG B ≤ 16) (hn : 1 ≤ n) (hn2 : n + mG B ≤ 4611686018427387905) (ms : List Int) (hfb : Fresh (backD d a n B z ms)) (hc : cameB z (mG B) ms = true) : Lies (atL (backD d a n B z ms)) a B (mG B) n := by
  simp only [cameB, Bool.and_eq_true, decide_eq_true_eq, List.all_eq_true, Bool.or_eq_true, List.mem_range] at hc
  refine ⟨need_pos hB, (mG_eq B).symm, fun i hi => ?_⟩
  have hst : stampP (n + i) := ⟨by omega, by omega⟩
  refine ⟨?_, hst⟩
  rw [back_at h ha ms hfb hi, layL_ok (partL_len _ _ _) hst]
  by_cases hz : mG B < z
  · rw [if_pos hz]
  · rw [if_neg hz, if_pos (by omega)]
    rcases hc.2 i hi with h1 | h1
    · exact absurd h1 hz
    · rw [h1]
      show mixB _ _ 15 = _
      exact mixB_all _ _ (layB_ok 2 _ _ (partL_len B _ i)).1
theorem came_no {d : Dev} (h : Fresh d) {a n z X : Nat} {B : List UInt8} (ha : a + mG B ≤ 16) (ms : List Int) (hm : masksB ms = true) (hX : SecLe X d.pages) (hfb : Fresh (backD d a n B z ms)) (hc : cameB z (mG B) ms = false) : ∃ i, i < mG B ∧ ∃ s ∈ atL (backD d a n B z ms) (a + i), s.1 ≤ X := by
  have hbo := fun q => atL_bok h.good q
  have hold : ∀ q, ∀ s ∈ atL d q, s.1 ≤ X := fun q => by rw [at_fresh h.cache]; exact getD_sec hX _
  have hex : ∀ q, ∃ s ∈ atL d q, s.1 ≤ X := fun q => by
    have h4 := (hbo q).1
    exact ⟨(atL d q).getD 0 (0, []), (mem_getD h4 _).2 ⟨0, by decide, rfl⟩, hold q _ ((mem_getD h4 _).2 ⟨0, by decide, rfl⟩)⟩
  have hnot : ¬ mG B < z := fun hz => by
    have : cameB z (mG B) ms = true := by
      simp only [cameB, Bool.and_eq_true, decide_eq_true_eq, List.all_eq_true, Bool.or_eq_true]
      exact ⟨by omega, fun i _ => .inl hz⟩
    rw [this] at hc; exact absurd hc (by decide)
  by_cases hz : mG B ≤ z
  · obtain ⟨i, hi, hmi⟩ : ∃ i, i < mG B ∧ ms[i]? ≠ some 15 := by
      refine Classical.byContradiction fun hno => ?_
      have : cameB z (mG B) ms = true := by
        simp only [cameB, Bool.and_eq_true, decide_eq_true_eq, List.all_eq_true, Bool.or_eq_true, List.mem_range]
        exact ⟨hz, fun i hi => .inr (Classical.byContradiction fun hh => hno ⟨i, hi, hh⟩)⟩
      rw [this] at hc; exact absurd hc (by decide)
    refine ⟨i, hi, ?_⟩
    rw [back_at h ha ms hfb hi, if_neg hnot, if_pos (by omega)]
    cases hmm : ms[i]? with
    | none => exact hex _
    | some m =>
      rw [hmm] at hmi
      have hmk : decide (0 ≤ m) && decide (m < 16) := by
        unfold masksB at hm
        exact List.all_eq_true.1 hm m (List.mem_of_getElem? hmm)
      simp only [Bool.and_eq_true, decide_eq_true_eq] at hmk
      exact mix_some (hbo _).1 (hold _) hmk.1 hmk.2 (fun e => hmi (by rw [e]))
  · refine ⟨z, by omega, ?_⟩
    rw [back_at h ha ms hfb (by omega), if_neg hnot, if_neg (by omega)]
    exact hex _
theorem layB_st {k : Int} {d : List UInt8} {n : Nat} {s : Sec} (h : s ∈ layB k d n) : s.1 = n := by
  simp only [layB, secsOf, List.mem_cons, List.not_mem_nil, or_false] at h
  rcases h with rfl | rfl | rfl | rfl <;> rfl
theorem next_cut {d : Dev} (h : Fresh d) {a n z X : Nat} {B : List UInt8} (hB : B ≠ []) (ha : a + mG B ≤ 16) (hn : 1 ≤ n) (hn2 : n + mG B ≤ 4611686018427387905) (ms : List Int) (hm : masksB ms = true) (hX : SecLe X d.pages) (hfb : Fresh (backD d a n B z ms)) (hc : cameB z (mG B) ms = false) : nextG (atL (backD d a n B z ms)) a X = 0 := by
  have hm1 := need_pos hB
  rcases nextG_cases (atL (backD d a n B z ms)) a X with ⟨h0, _⟩ | ⟨h1, h2, h3⟩
  · exact h0
  · exfalso
    obtain ⟨hl, hS⟩ := try_lies h3 h1
    generalize nextG (atL (backD d a n B z ms)) a X = m' at *
    generalize pSt (atL (backD d a n B z ms) a) = S at *
    have hold : ∀ q, ∀ s ∈ atL d q, s.1 ≤ X := fun q => by rw [at_fresh h.cache]; exact getD_sec hX _
    have hall : ∀ i, i < m' → ∀ s ∈ atL (backD d a n B z ms) (a + i), X < s.1 := fun i hi s hs => by
      rw [(hl.blk i hi).1] at hs
      have := layB_st hs
      omega
    have hst : stampP (n + 0) := ⟨by omega, by omega⟩
    have h0 : atL (backD d a n B z ms) (a + 0) = layB 2 (partL B (mG B) 0) (n + 0) := by
      have ha0 := hall 0 (by omega)
      rw [back_at h ha ms hfb (by omega)] at ha0 ⊢
      rw [layL_ok (partL_len _ _ _) hst] at ha0 ⊢
      by_cases hz : mG B < z
      · rw [if_pos hz]
      · rw [if_neg hz] at ha0 ⊢
        have hex : ¬ ∀ s ∈ atL d (a + 0), X < s.1 := fun hh => by
          have h4 := (atL_bok h.good (a + 0)).1
          have hs := (mem_getD h4 ((atL d (a + 0)).getD 0 (0, []))).2 ⟨0, by decide, rfl⟩
          have i1 := hh _ hs
          have i2 := hold _ _ hs
          omega
        by_cases hz2 : 0 < z
        · rw [if_pos hz2] at ha0 ⊢
          cases hmm : ms[0]? with
          | none => rw [hmm] at ha0; exact absurd ha0 hex
          | some m =>
            rw [hmm] at ha0
            exact mix_all (layB_ok 2 _ _ (partL_len B _ 0)).1 (hold _) ha0
        · rw [if_neg hz2] at ha0
          exact absurd ha0 hex
    have hmm := hl.many (by omega) (i := 0) (by omega)
    rw [h0] at hmm
    have hmn : manyB (layB 2 (partL B (mG B) 0) (n + 0)) = mG B := by
      unfold manyB pData
      rw [lay_reads hst]
      show (UInt8.ofNat (mG B)).toNat = mG B
      rw [UInt8.toNat_ofNat', Nat.mod_eq_of_lt (by omega)]
    rw [hmn] at hmm
    obtain ⟨i, hi, s, hs, hsx⟩ := came_no h ha ms hm hX hfb hc
    have := hall i (by omega) s hs
    omega
end Go.Proofs.Ytlddjcilbpcciaa
end
section
/-
  THE LOG: what LogCrash asks, together (plain).
-/
namespace Go.Proofs.Ytlddjcilbpcciaa
open Go.ChangeShapes Go.WideShapes Go.ChangeAt Go.RowKit Agg Pg Dv Lg

theorem crash_all {d : Dev} {gs gs2 : List (List UInt8)} {A z : Nat} {B : List UInt8} {ms : List Int} (hF : Fresh d) (hA : SecLe A d.pages) (hb : A ≤ 1152921504606846976) {R1 : Dev × List (List UInt8) × Nat × Nat} (hR1 : filP gs d 0 A (A + 1) = R1) (hB : B ≠ []) (hfit : R1.2.2.1 + mG B ≤ 16) (hm : masksB ms = true)
    {Bk : Dev} (hBk : backD R1.1 R1.2.2.1 (R1.2.2.2 + 1) B z ms = Bk) (hfb : Fresh Bk) {E : List (List UInt8) × Nat × Nat} (hE : (if cameB z (mG B) ms = true then (R1.2.1 ++ [B], R1.2.2.1 + mG B, R1.2.2.2 + mG B) else (R1.2.1, R1.2.2.1, R1.2.2.2)) = E) :
    repA Bk A = E ∧ E.2.1 ≤ 16 ∧ E.2.2 ≤ A + 32 ∧ grB Bk.pages ≤ A + 32 ∧ ∀ R2, filP gs2 Bk E.2.1 E.2.2 (max (grB Bk.pages) E.2.2 + 1) = R2 → FilR Bk E.2.1 E.2.2 (max (grB Bk.pages) E.2.2 + 1) (grB Bk.pages) R2 ∧ repA R2.1 A = (E.1 ++ R2.2.1, R2.2.2) := by
  obtain ⟨h1, h2⟩ := fil_back gs hF hA hb
  rw [hR1] at h1 h2
  obtain ⟨d1, l1, p, l⟩ := R1
  have hf1 : Fresh d1 := h1.fresh
  have hch : ChainL (atL d1) 0 A l1 p l := h1.chain
  have hle : 0 ≤ p ∧ p ≤ 16 := h1.le
  have hbd : l ≤ max A (A + 1 + (p - 0) - 1) := h1.bound
  have hAl : A ≤ l := (chain_le hch).2
  have hsec : SecLe l d1.pages := by have := h1.sec; exact this.mono (by show max A l ≤ l; omega)
  simp only at hBk hE hfit
  have hm1 := need_pos hB
  have hfb2 := hfb
  rw [← hBk] at hfb2
  have hfar := fun q (hq : q < 16) hq2 => back_far hf1 (n := l + 1) hfit ms hfb2 (q := q) hq hq2
  have hsb : SecLe (l + mG B) Bk.pages := by
    rw [← hBk]
    exact back_sec hf1 ms (hsec.mono (by omega)) (by omega)
  rw [hBk] at hfar
  have hch2 : ChainL (atL Bk) 0 A l1 p l := chain_congr hch (fun i hi => hfar i (by omega) (.inl hi))
  have hgr := grB_le.2 hsb
  -- what is replayed, and that it ends there
  have hend : ChainL (atL Bk) 0 A E.1 E.2.1 E.2.2 ∧ nextG (atL Bk) E.2.1 E.2.2 = 0 ∧ E.2.1 ≤ 16 ∧ E.2.2 ≤ l + mG B ∧ A ≤ E.2.2 := by
    by_cases hc : cameB z (mG B) ms = true
    · rw [if_pos hc] at hE
      rw [← hE]
      have hL := came_yes hf1 hB hfit (by omega) (by omega) ms hfb2 hc
      rw [hBk] at hL
      refine ⟨chain_app hch2 ⟨mG B, l + 1, hL, by omega, hfit, rfl, by show l + 1 + mG B - 1 = l + mG B; omega⟩, next_none ?_, hfit, Nat.le_refl _, by show A ≤ l + mG B; omega⟩
      show pSt (atL Bk (p + mG B)) ≤ l + mG B
      exact at_le hfb hsb _
    · rw [if_neg hc] at hE
      rw [← hE]
      have hn := next_cut hf1 hB hfit (by omega) (by omega) ms hm hsec hfb2 (by simpa using hc)
      rw [hBk] at hn
      exact ⟨hch2, hn, hle.2, by show l ≤ l + mG B; omega, hAl⟩
  obtain ⟨e1, e2, e3, e4, e5⟩ := hend
  have hrep : repA Bk A = E := by
    unfold repA
    rw [if_pos (fresh_ask hfb)]
    exact rep_chain e1 e2
  refine ⟨hrep, e3, by omega, by omega, fun R2 hR2 => ?_⟩
  have hsg : SecLe (grB Bk.pages) Bk.pages := grB_le.1 (Nat.le_refl _)
  have f := fil_facts gs2 (d := Bk) (p := E.2.1) (last := E.2.2) (st := max (grB Bk.pages) E.2.2 + 1) (X := grB Bk.pages) hfb e3 (by omega) (by omega) hsg
  rw [hR2] at f
  refine ⟨f, ?_⟩
  have hs := fil_stop hfb f (fun q _ _ => by have := at_le hfb hsg q; omega) e2
  have hc1 : ChainL (atL R2.1) 0 A E.1 E.2.1 E.2.2 := chain_congr e1 (fun i hi => f.same i (by omega) (.inl hi))
  unfold repA
  rw [if_pos (fresh_ask f.fresh)]
  exact rep_chain (chain_app hc1 f.chain) hs
end Go.Proofs.Ytlddjcilbpcciaa
end
section
/-
  DEVICES: Light (from device's texts).
-/
namespace Go.Proofs.Ytlddjcilbpcciaa
open Go.ChangeShapes Go.WideShapes Go.ChangeAt Go.RowKit Agg Pg Dv

set_option maxHeartbeats 4000000 in
set_option maxRecDepth 100000 in
theorem lightC_any (d : Dev) (n : Int) (base t bn : Nat) (w : World) (HT : TurnO base w t d) (HN : Blk w bn 3 [.int .i64 n]) (hbn : bn < base) :
    Calls Try.prog 47 #[.pointer (some ⟨t, 0, none⟩), .pointer (some ⟨bn, 0, none⟩)] w fun e w' => e = .returned (.int .i64 (lightP d n).1) ∧ TurnO base w' t (lightP d n).2 ∧ Below base w w' := by
  obtain ⟨P, l, z, q⟩ := d
  obtain ⟨p, c, hbt, H1, HP, HC⟩ := HT
  obtain ⟨px, pc, rfl, _, _⟩ := (ownSl HP).shape
  obtain ⟨cx, cc, rfl, _, _⟩ := (ownSl HC).shape
  have HT1 := Lib.hid H1
  have h1 := H1
  have HP := Lib.hid HP
  have HC := Lib.hid HC
  have HN := Lib.hid HN
  have hlt := H1.lt
  obtain ⟨r, hr⟩ : ∃ r, lightP ⟨P, l, z, q⟩ n = r := ⟨_, rfl⟩
  rw [hr]
  have HR := Lib.hid hr
  clear H1 hr
  have HB := Lib.hid (Below.refl w.heap.size w)
  go_enter Try.func47, Try.ntmps47
  have xHT1_0 := HT1.out.cell 0
  have xHT1_1 := HT1.out.cell 1
  have xHT1_2 := HT1.out.cell 2
  have xHT1_3 := HT1.out.cell 3
  have lHT1 := HT1.out.lt
  simp only [List.getElem?_cons_zero, List.getElem?_cons_succ] at xHT1_0 xHT1_1 xHT1_2 xHT1_3
  have xHN_0 := HN.out.cell 0
  have lHN := HN.out.lt
  simp only [List.getElem?_cons_zero] at xHN_0
  by_cases hn : 0 ≤ n ∧ n ≤ 10000
  · have hr := HR.out
    rw [lightP, if_pos hn] at hr
    subst hr
    obtain ⟨hn1, hn2⟩ := hn
    go_wp2_with (refine Agg.gStoreCell 2 (.int .i64 n) h1 rfl rfl rfl rfl rfl (by kernel_rfl) rfl (by simp) rfl (fun w12 hb12 hg12 => ?_); clear h1)
    go_ret
    refine ⟨rfl, ⟨_, _, hbt, hb12, HP.out.kept hg12 (own_apart HP.out HT1.out bTne), HC.out.kept hg12 (own_apart HC.out HT1.out wTne)⟩, ?_⟩
    exact grown_below hg12 (by omega) (fun j hj => (by cases hj; exact hbt))
  · have hr := HR.out
    rw [lightP, if_neg hn] at hr
    subst hr
    by_cases h0 : n < 0
    · go_wp2_with fail
      go_ret
      exact ⟨rfl, ⟨_, _, hbt, HT1.out, HP.out, HC.out⟩, Below.refl _ _⟩
    · have hn2 : n > 10000 := by omega
      clear hn
      go_wp2_with fail
      go_ret
      exact ⟨rfl, ⟨_, _, hbt, HT1.out, HP.out, HC.out⟩, Below.refl _ _⟩
set_option maxHeartbeats 4000000 in
set_option maxRecDepth 100000 in
theorem light_any (P : List (List Sec)) (l : List (Int × List Sec)) (z : Int) (q : Bool) (x y : Option Addr) (cap cm : Nat) (k : Int) (w : World)
    (hd1 : P.length ≤ 1000000) (hd2 : l.length ≤ 1000000) (hp : Pgs w (.slice x P.length cap) P) (hv : Wrs w (.slice y l.length cm) l) (hP : ∀ b ∈ P, BOk b) (hC : ∀ x ∈ l, BOk x.2) :
    Calls Try.prog 28 #[.agg #[.slice x P.length cap, .slice y l.length cm, .int .i64 z, .bool q], .int .i64 k] w fun e w' => ∃ v, e = .returned (.tuple #[v, .int .i64 (goesP ⟨P, l, z, q⟩ (lightP ⟨P, l, z, q⟩ k)).1]) ∧ DevO w.heap.size w' v (goesP ⟨P, l, z, q⟩ (lightP ⟨P, l, z, q⟩ k)).2 ∧ Below w.heap.size w w' := by
  have HP := Lib.hid hp
  have HV := Lib.hid hv
  have HGO := Lib.hid (fun W caps h1 h2 h3 => goes_any P l z q x y cap cm 47 caps (Agg.enters Try.func47 (by kernel_rfl) rfl) (lightP ⟨P, l, z, q⟩ k) W hd1 hd2 h1 h2 hP hC h3)
  have HD := Lib.hid (And.intro hd1 hd2)
  obtain ⟨g, hg⟩ : ∃ g, goesP ⟨P, l, z, q⟩ (lightP ⟨P, l, z, q⟩ k) = g := ⟨_, rfl⟩
  rw [hg] at HGO ⊢
  clear hp hv hP hC hd1 hd2 hg
  have HB := Lib.hid (Below.refl w.heap.size w)
  go_enter Try.func28, Try.ntmps28
  go_upto_region 1 with (fail)
  refine Agg.wp_at fun w1 hw1 => ?_
  have hb : Below w.heap.size w w1 := by rw [hw1.out]; repeat (first | exact Below.refl _ _ | refine Agg.bel_drew ?_ | refine Agg.bel_alloc ?_ _)
  replace HB := Lib.hid (HB.out.trans (hb.mono HB.out.size))
  replace HP := Lib.hid (HP.out.keep hb)
  replace HV := Lib.hid (HV.out.keep hb)
  clear hb
  have H1 : Hid (Blk w1 w.heap.size 28 [.slice x P.length cap, .slice y l.length cm, .int .i64 z, .bool q]) := by show Blk _ _ _ _; rw [hw1.out]; exact ((Blk.new w 28 #[.slice x P.length cap, .slice y l.length cm, .int .i64 z, .bool q]).al _).al _
  have H2 : Hid (Blk w1 (w.heap.size + 1) 3 [.int .i64 k]) := by show Blk _ _ _ _; rw [hw1.out]; exact (Blk.newAt (w.alloc _) 3 #[.int .i64 k] _ (by simp)).al _
  have H4 : Hid (Blk w1 (w.heap.size + 2) 28 [.slice none 0 0, .slice none 0 0, .int .i64 0, .bool false]) := by show Blk _ _ _ _; rw [hw1.out]; exact Blk.newAt ((w.alloc _).alloc _) 28 #[.slice none 0 0, .slice none 0 0, .int .i64 0, .bool false] _ (by simp)
  clear hw1
  have xH1_0 := H1.out.cell 0
  have xH1_1 := H1.out.cell 1
  have xH1_2 := H1.out.cell 2
  have xH1_3 := H1.out.cell 3
  have lH1 := H1.out.lt
  simp only [List.getElem?_cons_zero, List.getElem?_cons_succ] at xH1_0 xH1_1 xH1_2 xH1_3
  go_wp2_with fail
  have l2 := H2.out.lt
  have l4 := H4.out.lt
  have hsz := HB.out.size
  clear xH1_0 xH1_1 xH1_2 xH1_3 lH1
  refine (HGO.out w1 #[.pointer (some ⟨w.heap.size + 1, 0, none⟩)] HP.out HV.out (fun hr hq W base t hbase hW hT => (lightC_any ⟨P, l, z, q⟩ k base t (w.heap.size + 1) W hT (H2.out.keep hW) (by omega)))).mono ?_
  rintro e w2 ⟨v, rfl, hv, hb⟩
  replace HB := Lib.hid (HB.out.trans (hb.mono HB.out.size))
  replace HP := Lib.hid (HP.out.keep hb)
  replace HV := Lib.hid (HV.out.keep hb)
  replace H1 := Lib.hid (H1.out.keep hb)
  replace H2 := Lib.hid (H2.out.keep hb)
  replace H4 := Lib.hid (H4.out.keep hb)
  clear hb
  obtain ⟨er, dr⟩ := g
  obtain ⟨p', c', rfl, hP5, hC5⟩ := hv
  obtain ⟨px', pc', rfl, _, _⟩ := (ownSl hP5).shape
  obtain ⟨cx', cc', rfl, _, _⟩ := (ownSl hC5).shape
  have h4 := H4.out
  have hsz5 := HB.out.size
  have HP5 := Lib.hid hP5
  have HC5 := Lib.hid hC5
  clear hP5 hC5
  go_wp2_with (refine Agg.gStoreB 4 [.slice px' dr.pages.length pc', .slice cx' dr.cache.length cc', .int .i64 dr.fuse, .bool dr.off] h4 rfl rfl rfl rfl rfl (by decide +kernel) rfl rfl (by simp [Value.oneCell']) (fun w14 hb14 hg14 => ?_))
  refine bodyPost_ret (results_row2 (m := 4) rfl hb14 rfl (by decide +kernel) rfl) rfl ⟨_, rfl, ⟨_, _, rfl, ?_, ?_⟩, ?_⟩
  · exact own_base (HP5.out.kept hg14 (own_off HP5.out l4)) hsz
  · exact own_base (HC5.out.kept hg14 (own_off HC5.out l4)) hsz
  · exact HB.out.trans (grown_below hg14 hsz5 (fun j hj => (by cases hj; omega)))
variable {d : Dev} {v : Value} {w : World}
theorem light_R (hg : DGood d) (hc : d.cache.length ≤ 1000000) (hv : DevR w v d) (k : Int) :
    Calls Try.prog 28 #[v, .int .i64 k] w fun e w' => ∃ u, e = .returned (.tuple #[u, .int .i64 (goesP d (lightP d k)).1]) ∧ DevO w.heap.size w' u (goesP d (lightP d k)).2 ∧ Below w.heap.size w w' := by
  obtain ⟨x, y, cap, cm, rfl, h2, h3⟩ := hv
  exact light_any d.pages d.cache d.fuse d.off x y cap cm k w hg.n1 hc h2 h3 hg.pages hg.cache
end Go.Proofs.Ytlddjcilbpcciaa
end
