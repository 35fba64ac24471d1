/-
  ROOTS: what RootTurns asks (plain).
-/
import Derived.Test.YtjnnnnolikbjcaaRtI
import Derived.Test.YtjnnnnolikbjcaaRow
import Derived.Test.YtjnnnnolikbjcaaRFdDw1
import Derived.Test.YtjnnnnolikbjcaaCopy
import Derived.Test.YtjnnnnolikbjcaaAgg2
import Derived.Test.YtjnnnnolikbjcaaRDv7
import Derived.Test.YtjnnnnolikbjcaaGood
section
namespace Go.Proofs.Ytjnnnnolikbjcaa
open Go.ChangeShapes Go.WideShapes Go.ChangeAt Go.RowKit Agg Pg Dv

/-- no sector has a stamp above -/
def SecLe (X : Nat) (P : List (List Sec)) : Prop := ∀ b ∈ P, ∀ s ∈ b, s.1 ≤ X
theorem grB_le {P : List (List Sec)} {X : Nat} : grB P ≤ X ↔ SecLe X P := by
  constructor
  · intro h b hb s hs
    exact Nat.le_trans (le_grS P.flatten s (List.mem_flatten.2 ⟨b, hb, hs⟩)) h
  · intro h
    have := grS_lt P.flatten (X + 1) (by omega) (fun s hs => by
      obtain ⟨b, hb, hs2⟩ := List.mem_flatten.1 hs
      have := h b hb s hs2
      omega)
    show grS P.flatten ≤ X
    omega
theorem getD_sec {P : List (List Sec)} {X : Nat} (h : SecLe X P) (k : Nat) : ∀ s ∈ P.getD k zeroB, s.1 ≤ X := by
  intro s hs
  rw [List.getD_eq_getElem?_getD] at hs
  cases hc : P[k]? with
  | none =>
    rw [hc] at hs
    unfold zeroB at hs
    rw [List.eq_of_mem_replicate hs]; exact Nat.zero_le _
  | some b => rw [hc] at hs; exact h b (List.mem_of_getElem? hc) s hs
theorem layB_st {k : Int} {d : List UInt8} {n : Nat} {s : Sec} (h : s ∈ layB k d n) : s.1 = n := by
  simp only [layB, secsOf, List.mem_cons, List.not_mem_nil, or_false] at h
  rcases h with rfl | rfl | rfl | rfl <;> rfl
/-- the old blocks that are laid -/
def oldP : List (List Sec) → Nat → List (List Sec) → List (List Sec)
  | [], _, P => P
  | b :: bs, i, P => oldP bs (i + 1) (if i < 2 ∧ grB [b] < 1152921504606846976 then P.set i b else P)
def oldD (P : List (List Sec)) : Dev := ⟨P, [], -1, false⟩
/-- a device of the greatest size, with its power, on which all has settled -/
structure Calm (d : Dev) : Prop where
  pow : PowD d
  good : DGood d
  cache : d.cache = []
  len : d.pages.length = 256
theorem calm_eq {d : Dev} (h : Calm d) : d = oldD d.pages := by
  obtain ⟨P, l, z, q⟩ := d
  obtain ⟨⟨_, h2, h3⟩, _, h4, _⟩ := h
  simp only at h2 h3 h4
  subst h2; subst h3; subst h4
  rfl
theorem calm_of {P : List (List Sec)} (h : P.length = 256) (hb : ∀ b ∈ P, BOk b) : Calm (oldD P) := by
  refine ⟨⟨right_of (d := oldD P) ?_ ?_ (by simp [oldD]) (by simp [oldD]) (by simp [oldD]) (by simp [oldD]), rfl, rfl⟩, ⟨hb, fun b hb => absurd hb (by simp [oldD]), fun b hb => absurd hb (by simp [oldD]), ?_⟩, rfl, h⟩
  · show 24 ≤ P.length; omega
  · show P.length ≤ 256; omega
  · show P.length ≤ 1000; omega
/-- the root of a block of a calm device's slot -/
theorem calm_in {d : Dev} (h : Calm d) (k : Int) : inR d k = inB 256 k (d.pages.getD k.toNat zeroB) := by
  unfold inR
  rw [h.len, h.cache, saysP_zero]
theorem right_of256 {r : Rt} (h : RightR r) : ofB 256 r = true := by
  unfold ofB
  rw [List.all_eq_true]
  intro x hx
  have := (h.page hx).2
  simp; omega
theorem calm_bok {d : Dev} (h : Calm d) (k : Nat) : BOk (d.pages.getD k zeroB) := by
  rw [List.getD_eq_getElem?_getD]
  cases hc : d.pages[k]? with
  | none => exact zeroB_bok
  | some b => exact h.good.pages b (List.mem_of_getElem? hc)
/-- how a root stands in a device -/
structure Stand (d : Dev) (r : Rt) : Prop where
  calm : Calm d
  right : RightR r
  st : r.stamp ≤ grB d.pages
  lies : inR d r.slot = some r
  find : findR d = some r
theorem stand_found {d : Dev} {r : Rt} (h : Calm d) (hf : findR d = some r) : Stand d r := by
  have key : ∀ k : Int, inR d k = some r → Stand d r := fun k hk => by
    have hk2 := hk
    rw [calm_in h] at hk2
    obtain ⟨h1, h2, _, h4, _⟩ := inB_some (calm_bok h _) hk2
    refine ⟨h, h1, ?_, by rw [h2]; exact hk, hf⟩
    have hb : (blkR r).length = 4 := (blkR_bok h1).1
    obtain ⟨s, hs⟩ : ∃ s, s ∈ blkR r := ⟨(blkR r)[0]'(by omega), List.getElem_mem _⟩
    have e := layB_st (k := 1) (d := dataR r) (n := r.stamp) hs
    rw [h4] at hs
    rw [← e]
    exact getD_sec (grB_le.1 (Nat.le_refl (grB d.pages))) _ s hs
  rcases bestR_some hf with h1 | h1
  · exact key 0 h1
  · exact key 1 h1
theorem slot_cases {d : Dev} {r : Rt} (h : Stand d r) : r.slot = 0 ∨ r.slot = 1 := h.right.slot
/-- a root is put on a calm device on which none holds -/
theorem stand_put {d : Dev} {r : Rt} (h : Calm d) (hn : findR d = none) (hr : RightR r) (hs : r.slot = 1) : putRt d r = (0, putDev d r) ∧ Stand (putDev d r) r ∧ grB (putDev d r).pages ≤ max (grB d.pages) r.stamp := by
  have ho : ofB d.pages.length r = true := by rw [h.len]; exact right_of256 hr
  obtain ⟨h1, h2⟩ := putRt_ok h.pow hr ho
  have hg := putDev_good h.good h.pow hr ho
  have hpg : (putDev d r).pages = d.pages.set 1 (blkR r) := by
    show settleAll d.pages (d.cache ++ [(r.slot, blkR r)]) = _
    rw [h.cache, hs]
    exact settle_all d.pages 1 (blkR r) (blkR_bok hr).1
  have hi : ∀ k : Int, k = 0 ∨ k = 1 → inR (putDev d r) k = if k = r.slot then some r else inR d k := fun k hk => inR_put h.good h.pow hr ho hk
  have hm : blkR r ∈ (putDev d r).pages := by
    rw [hpg]
    exact List.mem_iff_getElem?.2 ⟨1, by rw [List.getElem?_set_self (by rw [h.len]; decide)]⟩
  have hsec : SecLe (max (grB d.pages) r.stamp) (putDev d r).pages := by
    rw [hpg]
    intro b hb s hs
    rcases List.mem_or_eq_of_mem_set hb with hb | rfl
    · exact Nat.le_trans (grB_le.1 (Nat.le_refl _) b hb s hs) (Nat.le_max_left _ _)
    · rw [layB_st hs]; exact Nat.le_max_right _ _
  refine ⟨h1, ⟨⟨h2, hg, rfl, by rw [putDev_len, h.len]⟩, hr, ?_, ?_, ?_⟩, grB_le.2 hsec⟩
  · obtain ⟨s, hs⟩ : ∃ s, s ∈ blkR r := ⟨(blkR r)[0]'(by rw [(blkR_bok hr).1]; decide), List.getElem_mem _⟩
    have e := layB_st (k := 1) (d := dataR r) (n := r.stamp) hs
    rw [← e]
    exact grB_le.1 (Nat.le_refl _) _ hm s hs
  · rw [hi _ hr.slot, if_pos rfl]
  · unfold findR
    rw [hi 0 (.inl rfl), hi 1 (.inr rfl), if_neg (by omega), if_pos hs.symm, (bestR_none hn).1]
    rfl
/-- power that is lit -/
def fzD (d : Dev) (z : Int) : Dev := { d with fuse := z }
def offG (d : Dev) : Dev := { d with fuse := -1, off := true }
structure LitG (e : Dev) (z : Nat) : Prop where
  right : rightD e = true
  off : e.off = false
  fuse : e.fuse = z
theorem burn_zeroG {e : Dev} (h : LitG e 0) : burnD e = offG e := by
  obtain ⟨P, l, z, q⟩ := e
  have := h.fuse
  simp only [Int.natCast_zero] at this
  subst this
  rfl
theorem burn_succG {e : Dev} {z : Nat} (h : LitG e (z + 1)) : burnD e = fzD e z := by
  obtain ⟨P, l, y, q⟩ := e
  have h1 := h.fuse
  have h2 := h.off
  simp only at h1 h2
  subst h1; subst h2
  unfold burnD burnF fzD
  dsimp only
  rw [if_neg (by omega), if_pos (by omega)]
  simp
theorem right_fz {e : Dev} (h : rightD e = true) (ho : e.off = false) {z : Int} (h1 : 0 ≤ z) (h2 : z ≤ 10000) : rightD (fzD e z) = true := by
  obtain ⟨b1, b2, b3, b4, b5, b6⟩ := right_six h
  exact right_of b1 b2 (show -1 ≤ z by omega) h2 (fun hh => absurd (ho.symm.trans hh) (by decide)) b6
theorem right_offG {e : Dev} (h : rightD e = true) : rightD (offG e) = true := by
  obtain ⟨b1, b2, b3, b4, b5, b6⟩ := right_six h
  exact right_of b1 b2 (show (-1 : Int) ≤ -1 by decide) (show (-1 : Int) ≤ 10000 by decide) (fun _ => rfl) b6
theorem put_litG0 {e : Dev} (h : LitG e 0) {k : Int} (hk : thereB e.pages.length k = true) (b : List Sec) : goesP e (putP e k b) = (10, offG e) := by
  have : putP e k b = (10, offG e) := by rw [putP, if_neg (by rw [hk]; decide), burn_zeroG h, if_pos (show (offG e).off = true from rfl)]
  rw [this, goesP_on h.right h.off (.inr rfl)]
theorem put_litGS {e : Dev} {z : Nat} (h : LitG e (z + 1)) {k : Int} (hk : thereB e.pages.length k = true) (b : List Sec) : goesP e (putP e k b) = (0, fzD (addD e [(k, b)]) z) ∧ LitG (fzD (addD e [(k, b)]) z) z := by
  have hz : ((z + 1 : Nat) : Int) ≤ 10000 := by rw [← h.fuse]; exact (right_six h.right).2.2.2.1
  have e1 : putP e k b = (0, fzD (addD e [(k, b)]) z) := by
    rw [putP, if_neg (by rw [hk]; decide), burn_succG h, if_neg (by show ¬ e.off = true; rw [h.off]; decide)]; rfl
  refine ⟨by rw [e1, goesP_on h.right h.off (.inl rfl)], ?_, h.off, rfl⟩
  refine right_fz (e := addD e [(k, b)]) (z := (z : Int)) (right_keep h.right rfl rfl rfl (fun x hx => ?_)) h.off (by omega) (by omega)
  rcases List.mem_append.1 hx with hx | hx
  · exact (right_six h.right).2.2.2.2.2 x hx
  · rw [List.mem_singleton.1 hx]; exact hk
theorem flush_litG0 {e : Dev} (h : LitG e 0) : goesP e (flushP e) = (10, offG e) := by
  have : flushP e = (10, offG e) := by rw [flushP, burn_zeroG h, if_pos (show (offG e).off = true from rfl)]
  rw [this, goesP_on h.right h.off (.inr rfl)]
theorem flush_litGS {e : Dev} {z : Nat} (h : LitG e (z + 1)) : goesP e (flushP e) = (0, fzD (flD e) z) := by
  have : flushP e = (0, fzD (flD e) z) := by
    rw [flushP, burn_succG h, if_neg (by show ¬ e.off = true; rw [h.off]; decide)]; rfl
  rw [this, goesP_on h.right h.off (.inl rfl)]
theorem fz_good {d : Dev} (h : DGood d) (z : Int) : DGood (fzD d z) := ⟨h.pages, h.cache, h.nums, h.np⟩
theorem off_good {d : Dev} (h : DGood d) : DGood (offG d) := ⟨h.pages, h.cache, h.nums, h.np⟩
theorem lit_of {d : Dev} (h : PowD d) {z : Nat} (hz : z ≤ 1000) : goesP d (lightP d z) = (0, fzD d z) ∧ LitG (fzD d z) z := by
  have e : lightP d z = (0, fzD d z) := by unfold lightP; rw [if_pos ⟨by omega, by omega⟩]; rfl
  exact ⟨by rw [e, goesP_on h.1 h.2.1 (.inl rfl)], right_fz h.1 h.2.1 (by omega) (by omega), h.2.1, rfl⟩
/-- the device that is cut -/
def cutD (d : Dev) (r : Rt) (z : Nat) : Dev := if z = 0 then offG d else if z = 1 then offG (addD d [(r.slot, blkR r)]) else fzD (putDev d r) 0
/-- a root is put on a device that is lit -/
theorem put_cut {d : Dev} (h : Calm d) {r : Rt} {z : Nat} (hz : z ≤ 2) : putRt (fzD d z) r = if rightB r = false then (330, dev0) else (if z = 2 then 0 else 10, cutD d r z) := by
  obtain ⟨_, hL⟩ := lit_of h.pow (z := z) (by omega)
  have hw : whyD (fzD d z) = 0 := by unfold whyD; rw [if_neg (by rw [hL.right]; decide), if_neg (by rw [hL.off]; decide)]
  unfold putRt
  rw [hw, if_neg (by decide), if_neg (by decide)]
  by_cases hq : rightB r = false
  · rw [if_pos (.inl hq), if_pos hq]
  · have hq1 : rightB r = true := by simpa using hq
    have hr := (right_iff r).1 hq1
    have ho : ofB (fzD d z).pages.length r = true := by show ofB d.pages.length r = true; rw [h.len]; exact right_of256 hr
    have hth : thereB (fzD d z).pages.length r.slot = true := ofB_there (by show 24 ≤ d.pages.length; rw [h.len]; decide) hr.slot
    rw [if_neg (by rw [hq1, ho]; decide), if_neg hq]
    unfold cutD
    match z, hz, hL with
    | 0, _, hL => rw [put_litG0 hL hth]; rfl
    | 1, _, hL =>
      obtain ⟨h1, h2⟩ := put_litGS hL hth (blkR r)
      rw [h1, if_neg (show ¬ (0 : Int) ≠ 0 by decide)]
      dsimp only
      rw [flush_litG0 h2]
      rfl
    | 2, _, hL =>
      obtain ⟨h1, h2⟩ := put_litGS hL hth (blkR r)
      rw [h1, if_neg (show ¬ (0 : Int) ≠ 0 by decide)]
      dsimp only
      rw [flush_litGS h2]
      rfl
theorem cut_good {d : Dev} (h : Calm d) {r : Rt} (hr : RightR r) {z : Nat} : DGood (cutD d r z) ∧ rightD (cutD d r z) = true ∧ (cutD d r z).cache.length ≤ 1 := by
  have ho : ofB d.pages.length r = true := by rw [h.len]; exact right_of256 hr
  have hth : thereB d.pages.length r.slot = true := ofB_there (by rw [h.len]; decide) hr.slot
  obtain ⟨h1, h2⟩ := put_pow h.pow hth (blkR r)
  have hg := goesP_good h.good (putP_good h.good r.slot (blkR_bok hr))
  rw [h1] at hg
  obtain ⟨_, h3⟩ := putRt_ok h.pow hr ho
  unfold cutD
  split
  · exact ⟨off_good h.good, right_offG h.pow.1, by show d.cache.length ≤ 1; rw [h.cache]; decide⟩
  · split
    · exact ⟨off_good hg, right_offG h2.1, by show (d.cache ++ [(r.slot, blkR r)]).length ≤ 1; rw [h.cache]; simp⟩
    · exact ⟨fz_good (putDev_good h.good h.pow hr ho) 0, right_fz h3.1 h3.2.1 (by decide) (by decide), by show (0 : Nat) ≤ 1; decide⟩
/-- .. and back -/
def backD (d : Dev) (r : Rt) (z : Nat) (m : Int) : Dev := crD (cutD d r z) [m]
theorem find_two {d : Dev} {a b : Rt} {s : Int} (hs : s = 0 ∨ s = 1) (h1 : inR d s = some a) (h2 : inR d (1 - s) = some b) (h : a.stamp < b.stamp) : findR d = some b := by
  unfold findR
  rcases hs with rfl | rfl
  · rw [h1, show inR d 1 = some b from h2, bestR_two, if_pos h]
  · rw [h1, show inR d 0 = some b from h2, bestR_two, if_neg (by omega)]
theorem find_one {d : Dev} {a : Rt} {s : Int} (hs : s = 0 ∨ s = 1) (h1 : inR d s = some a) (h2 : inR d (1 - s) = none) : findR d = some a := by
  unfold findR
  rcases hs with rfl | rfl
  · rw [h1, show inR d 1 = none from h2, bestR_one]
  · rw [h1, show inR d 0 = none from h2, bestR_no]
theorem find_same {d e : Dev} (h : ∀ k : Int, k = 0 ∨ k = 1 → inR e k = inR d k) : findR e = findR d := by
  unfold findR
  rw [h 0 (.inl rfl), h 1 (.inr rfl)]
theorem settleBy_nil (P : List (List Sec)) (m : Int) : settleBy P [] [m] = P := rfl
theorem torn_no {n : Nat} {k : Int} {b : List Sec} (h : stampB b = false) : inB n k b = none := by
  unfold inB
  rw [if_neg (fun h2 => ?_)]
  have h1 := h2.1
  unfold readR at h1
  rw [if_neg (by rw [h]; decide)] at h1
  exact absurd h1 (by decide)
/-- what holds behind the crash -/
theorem turns {d : Dev} {r was : Rt} (h : Stand d was) (hr : RightR r) (hs : r.slot = 1 - was.slot) (hst : r.stamp = grB d.pages + 1) {z : Nat} (hz : z ≤ 2) {m : Int} (hm0 : 0 ≤ m) (hm : m < 16) :
    crashP (cutD d r z) [m] = (0, backD d r z m) ∧ PowD (backD d r z m) ∧ DGood (backD d r z m) ∧ (backD d r z m).cache = [] ∧ findR (backD d r z m) = some (if z = 2 ∨ z = 1 ∧ m = 15 then r else was) := by
  have hmk : masksB [m] = true := by unfold masksB; simp; omega
  obtain ⟨g1, g2, g3⟩ := cut_good h.calm hr (z := z)
  obtain ⟨c1, c2⟩ := crash_do g2 hmk
  have hg := crashP_good g1 [m]
  rw [c1] at hg
  refine ⟨c1, c2, hg, rfl, ?_⟩
  have hlen : (backD d r z m).pages.length = 256 := by
    show (settleBy (cutD d r z).pages (cutD d r z).cache [m]).length = 256
    rw [settleBy_len]
    unfold cutD
    split
    · exact h.calm.len
    · split
      · exact h.calm.len
      · exact (putDev_len d r).trans h.calm.len
  have hC : Calm (backD d r z m) := ⟨c2, hg, rfl, hlen⟩
  have hw := h.right.slot
  have hrs := hr.slot
  have hne : r.slot.toNat ≠ was.slot.toNat := by omega
  have hlt : was.stamp < r.stamp := by rw [hst]; have := h.st; omega
  have hlies := h.lies
  rw [calm_in h.calm] at hlies
  have hother : inB 256 r.slot (blkR r) = some r := inB_blk hr (right_of256 hr)
  have hsl : was.slot = 1 - r.slot := by omega
  by_cases h0 : z = 0
  · rw [if_neg (by omega)]
    have e : (backD d r z m).pages = d.pages := by
      show settleBy (cutD d r z).pages (cutD d r z).cache [m] = _
      unfold cutD
      rw [if_pos h0]
      show settleBy d.pages d.cache [m] = _
      rw [h.calm.cache]; rfl
    rw [← h.find]
    exact find_same (fun k _ => by rw [calm_in hC, calm_in h.calm, e])
  · by_cases h2 : z = 2
    · rw [if_pos (.inl h2)]
      have ho : ofB d.pages.length r = true := by rw [h.calm.len]; exact right_of256 hr
      have e : (backD d r z m).pages = (putDev d r).pages := by
        show settleBy (cutD d r z).pages (cutD d r z).cache [m] = _
        unfold cutD
        rw [if_neg h0, if_neg (by omega)]
        rfl
      have hi : ∀ k : Int, k = 0 ∨ k = 1 → inR (backD d r z m) k = if k = r.slot then some r else inR d k := fun k hk => by
        rw [← inR_put h.calm.good h.calm.pow hr ho hk, calm_in hC, e]
        unfold inR
        rw [putDev_len, h.calm.len]
        rfl
      refine find_two hw (a := was) ?_ ?_ hlt
      · rw [hi _ hw, if_neg (by omega)]; exact h.lies
      · rw [← hs, hi _ hrs, if_pos rfl]
    · have h1 : z = 1 := by omega
      have e : (backD d r z m).pages = settle d.pages (r.slot, blkR r) m := by
        show settleBy (cutD d r z).pages (cutD d r z).cache [m] = _
        unfold cutD
        rw [if_neg h0, if_pos h1]
        show settleBy d.pages (d.cache ++ [(r.slot, blkR r)]) [m] = _
        rw [h.calm.cache]; rfl
      have hwas : inR (backD d r z m) was.slot = some was := by
        rw [calm_in hC, e, settle_getD _ _ _ _ (by rw [h.calm.len]; omega), if_neg hne]
        exact hlies
      have his : inR (backD d r z m) r.slot = inB 256 r.slot (mixB (d.pages.getD r.slot.toNat zeroB) (blkR r) m) := by
        rw [calm_in hC, e, settle_getD _ _ _ _ (by rw [h.calm.len]; omega), if_pos rfl]
      have hbk := (blkR_bok hr).1
      have hold := (calm_bok h.calm r.slot.toNat).1
      by_cases h15 : m = 15
      · rw [if_pos (.inr ⟨h1, h15⟩)]
        refine find_two hw hwas ?_ hlt
        rw [← hs, his, h15, mixB_all _ _ hbk]
        exact hother
      · rw [if_neg (by omega)]
        by_cases hm0' : m = 0
        · rw [← h.find]
          refine find_same (fun k hk => ?_)
          rw [calm_in hC, calm_in h.calm, e, settle_getD _ _ _ _ (by rw [h.calm.len]; omega)]
          split
          · rename_i hk2
            rw [hm0', mixB_none _ _ (calm_bok h.calm _).1]
          · rfl
        · refine find_one hw hwas ?_
          rw [← hs, his]
          refine torn_no (torn _ _ m r.stamp hm0 hm hm0' h15 hold hbk (fun s hs => ?_) (fun s hs => layB_st hs))
          have := getD_sec (grB_le.1 (Nat.le_refl (grB d.pages))) _ s hs
          omega
end Go.Proofs.Ytjnnnnolikbjcaa
end
section
/-
  ROWS OF ONE'S OWN, cell by cell. Over any program.
-/
namespace Agg
open Go Go.RowKit
theorem ownBlk {w : World} {base : Nat} {e : TypeId} {sz g n cap : Nat} {xs : List Value} (h : w.ownsRow base e sz (.slice (some ⟨g, 0, none⟩) n cap) n xs) : ∃ r, Blk w g e (xs ++ r) ∧ base ≤ g ∧ n ≤ cap ∧ cap ≤ maxLen ∧ (xs ++ r).length = cap * sz := by
  rcases h.2 with ⟨h1, _⟩ | ⟨g', cap', cur, h1, h2, h3, h4, h5, h6, h7⟩
  · cases h1
  · cases h1
    have e : xs ++ cur.toList.drop (n * sz) = cur.toList := by rw [← h7]; exact List.take_append_drop _ _
    refine ⟨cur.toList.drop (n * sz), ?_, h2, h4, h5, ?_⟩
    · rw [e]; simpa [Blk] using h3
    · rw [e]; simpa using h6
theorem blkOwn {w : World} {base : Nat} {e : TypeId} {sz g n cap : Nat} {xs r : List Value} (h : Blk w g e (xs ++ r)) (hb : base ≤ g) (h4 : n ≤ cap) (h5 : cap ≤ maxLen) (h6 : (xs ++ r).length = cap * sz) (hx : xs.length = n * sz) : w.ownsRow base e sz (.slice (some ⟨g, 0, none⟩) n cap) n xs := by
  refine ⟨hx, .inr ⟨g, cap, (xs ++ r).toArray, rfl, hb, h, h4, h5, by simpa using h6, ?_⟩⟩
  simp [← hx]
theorem spliced_set (xs : List Value) (k : Nat) (v : Value) (h : k < xs.length) : spliced xs k [v] = xs.set k v := by
  unfold spliced
  rw [List.set_eq_take_append_cons_drop, if_pos h]
  simp
/-- a row of one's own: where it lies -/
theorem ownPos {w : World} {base : Nat} {e : TypeId} {sz n : Nat} {v : Value} {xs : List Value} (h : w.ownsRow base e sz v n xs) (hn : 0 < n) : ∃ g cap, v = .slice (some ⟨g, 0, none⟩) n cap := by
  rcases h.2 with ⟨_, h1⟩ | ⟨g', cap', cur, h1, h2, h3, h4, h5, h6, h7⟩
  · omega
  · exact ⟨g', cap', h1⟩
variable {P : Program} {Q : Exit → Act → World → Prop} {o : Oper} {w : World} in
/-- a cell of such a row is stored -/
theorem gStoreOwn {ops : Array Oper} {rest : List Oper} {a : Act} {t : TypeId} {x y : Operand} {base : Nat} {e : TypeId} {g n cap : Nat} {xs : List Value} (k : Nat) (v : Value) (H : w.ownsRow base e 1 (.slice (some ⟨g, 0, none⟩) n cap) n xs) (hk : k < n)
    (hg : o.guard = none) (hd : o.dst = none) (ho : o.op = .store t x y) (hx : a.eval x = .pointer (some ⟨g, k, none⟩)) (hy : a.eval y = v)
    (ht : (P.info? t).map (·.size) = some 1) (hv : v.cells.toList = [v]) (h1 : v.oneCell' = true)
    (h : ∀ w', w'.ownsRow base e 1 (.slice (some ⟨g, 0, none⟩) n cap) n (xs.set k v) → w.grownBy w' (some g) → wpList P ops Q rest a w') : wpList P ops Q (o :: rest) a w := by
  obtain ⟨r, hb, h2, h3, h4, h5⟩ := ownBlk H
  have hxl := H.1
  refine gStoreCell k v hb hg hd ho hx hy ht hv (by rw [List.length_append]; omega) h1 (fun w' hb' hg' => h w' ?_ hg')
  rw [spliced_set _ _ _ (by rw [List.length_append]; omega), List.set_append_left _ _ (by omega)] at hb'
  exact blkOwn hb' h2 h3 h4 (by simpa using h5) (by simpa using hxl)
end Agg
end
section
/-
  THE LENGTH of a slice of which only that is known, as an operation of a region. Over any program.
-/
namespace Agg
open Go Go.RowKit
section
variable {n kk : Nat} {P : Program} {l rest : List Oper} {W : World} {l0 : List Value} {ds : List Deferred} {acc : List R} {o : Oper} {fin : List R → Prop}
theorem chLenO {t e : TypeId} (ht : P.underlying t = some (.slice e)) {ts : Nat} (m : Nat) (j : Nat) {g : Value → World → Prop} (hl : ∀ v w, g v w → ∃ y c, v = .slice y m c) (ho : o.op = .call { callee := .builtin .len, args := #[.tmp ts], argTypes := #[t] }) (hd : depL o j = true) (hj : look kk acc j = some (.op g)) (ht2 : (l[j]?).map (·.dst) = some (some ts)) (hw : wants kk acc o = some true) (hk : gOk l o = true)
    (h : ChainR n P l.toArray W ⟨l0.toArray, ds⟩ (kk + 1) ((.pure (.int .i64 (m : Int))) :: acc) rest fin) : ChainR n P l.toArray W ⟨l0.toArray, ds⟩ kk acc (o :: rest) fin :=
  chPure (by rw [ho]; rfl) hw hk (fun a w hh w' => by
    obtain ⟨u, hu, hg⟩ := hh.op j ts hd hj ht2
    obtain ⟨y, c, rfl⟩ := hl u w hg
    simp [execOp, ho, resolve, hu, invoke, builtin, Builtin.len_, goInt, run_underlying ht]) h
end
end Agg
end
section
/-
  WHAT IS LEFT OF A SLICE, whatever its elements, wherever it lies. Over any program.
-/
namespace Agg
open Go Go.RowKit
theorem slR_rest {P : Program} {w : World} {t e : TypeId} {sz bytes : Nat} {z : Value} (T : TI P t e sz bytes z) (hsz : 0 < sz) {x : Option Addr} {n cap : Nat} {cs : List Value} (h : SlR w (.slice x n cap) sz n cs) (k : Nat) (hk : k ≤ n) :
    ∃ y c, (∀ w2, (Instr.sliceAt t (.slice x n cap) (some (.int .i64 (k : Int))) none none).run P w2 = .ok (.slice y (n - k) c) w2) ∧ SlR w (.slice y (n - k) c) sz (n - k) (cs.drop (k * sz)) := by
  obtain ⟨_, _, he, hc1, hcm⟩ := SlR.shape h
  cases he
  obtain ⟨i, hi, hz, hs, hb⟩ := T.info
  have hlen := h.1
  by_cases hn : n = 0
  · subst hn
    have hk0 : k = 0 := by omega
    subst hk0
    have hcs : cs = [] := List.eq_nil_of_length_eq_zero (by rw [hlen]; simp)
    subst hcs
    refine ⟨x, cap, fun w2 => ?_, by simpa using h⟩
    cases x with
    | none => simp [Instr.sliceAt, Instr.slice, Instr.sliceBounds, Instr.sliceBound, run_underlying T.ht, asIntOf, Go.sizeOf, typeInfo, hi]
    | some a =>
      by_cases hc : cap = 0
      · subst hc; simp [Instr.sliceAt, Instr.slice, Instr.sliceBounds, Instr.sliceBound, run_underlying T.ht, asIntOf, Go.sizeOf, typeInfo, hi]
      · simp [Instr.sliceAt, Instr.slice, Instr.sliceBounds, Instr.sliceBound, run_underlying T.ht, asIntOf, Go.sizeOf, typeInfo, hi, hc, Addr.add]
  · obtain ⟨b, o, cap', hve, _, _, hcp, _⟩ := SlR.pos h hsz (by omega)
    simp only [Value.slice.injEq, true_and] at hve
    obtain ⟨rfl, rfl⟩ := hve
    have hdl : (cs.drop (k * sz)).length = (n - k) * sz := by rw [List.length_drop, hlen, Nat.sub_mul]
    by_cases hc : k < cap
    · refine ⟨_, _, fun w2 => run_slice_from T b o n cap k hk hc w2, hdl, .inr ⟨_, cap - k, rfl, by omega, by omega, fun j u hj => ?_⟩⟩
      rw [List.getElem?_drop] at hj
      have h2 := hcp _ _ hj
      rw [add_none, ← h2]
      congr 2; omega
    · have hkc : k = cap := by omega
      have hrc : n = k := by omega
      subst hkc
      subst hrc
      refine ⟨some ⟨b, o, none⟩, 0, fun w2 => ?_, hdl, .inr ⟨_, 0, by rw [Nat.sub_self], by omega, Nat.zero_le _, fun j u hj => ?_⟩⟩
      · simp [Instr.sliceAt, Instr.slice, Instr.sliceBounds, Instr.sliceBound, run_underlying T.ht, asIntOf, Go.sizeOf, typeInfo, hi]
      · have := (List.getElem?_eq_some_iff.1 hj).1
        rw [hdl] at this; simp at this
/-- .. and its head -/
theorem slR_head {w : World} {sz : Nat} {x : Option Addr} {n cap : Nat} {cs : List Value} (h : SlR w (.slice x n cap) sz n cs) (k : Nat) (hk : k ≤ n) : SlR w (.slice x k cap) sz k (cs.take (k * sz)) := by
  obtain ⟨hl, h2⟩ := h
  have hlen : (cs.take (k * sz)).length = k * sz := by rw [List.length_take, hl]; exact Nat.min_eq_left (Nat.mul_le_mul_right _ hk)
  refine ⟨hlen, ?_⟩
  rcases h2 with ⟨h3, h4⟩ | ⟨p, cap', hv, h3, h4, h5⟩
  · subst h4
    obtain rfl : k = 0 := by omega
    exact .inl ⟨h3, rfl⟩
  · simp only [Value.slice.injEq] at hv
    obtain ⟨rfl, _, rfl⟩ := hv
    refine .inr ⟨p, cap, rfl, by omega, h4, fun j u hj => h5 j u ?_⟩
    have hj2 := (List.getElem?_eq_some_iff.1 hj).1
    rw [hlen] at hj2
    rwa [List.getElem?_take, if_pos hj2] at hj
theorem gSliceFrom {P : Program} {w : World} {o : Oper} {Q : Exit → Act → World → Prop} {ops : Array Oper} {rest : List Oper} {a : Act} {t : TypeId} {x y : Operand} {u v : Value} (r : Value) (hg : o.guard = none) (ho : o.op = .slice t x (some y) none none) (hx : a.eval x = u) (hy : a.eval y = v) (hr : ∀ w2, (Instr.sliceAt t u (some v) none none).run P w2 = .ok r w2)
    (h : wpList P ops Q rest (a.put o.dst r) w) : wpList P ops Q (o :: rest) a w := by
  refine Agg.run hg r w ?_ h
  simp only [execOp, ho, Option.map_some, Option.map_none, hx, hy, hr, Sem.run_bind, Result.andThen_ok, Sem.run_pure]
theorem gSliceUp {P : Program} {w : World} {o : Oper} {Q : Exit → Act → World → Prop} {ops : Array Oper} {rest : List Oper} {a : Act} {t : TypeId} {x y : Operand} {u v : Value} (r : Value) (hg : o.guard = none) (ho : o.op = .slice t x none (some y) none) (hx : a.eval x = u) (hy : a.eval y = v) (hr : ∀ w2, (Instr.sliceAt t u none (some v) none).run P w2 = .ok r w2)
    (h : wpList P ops Q rest (a.put o.dst r) w) : wpList P ops Q (o :: rest) a w := by
  refine Agg.run hg r w ?_ h
  simp only [execOp, ho, Option.map_some, Option.map_none, hx, hy, hr, Sem.run_bind, Result.andThen_ok, Sem.run_pure]
/-- a literal of one row -/
theorem gLit1 {P : Program} {w : World} {o : Oper} {Q : Exit → Act → World → Prop} {ops : Array Oper} {rest : List Oper} {a : Act} {t e : TypeId} {x : Operand} (cs : List Value) (hg : o.guard = none) (ho : o.op = .buildSlice t 1 #[(0, x)]) (hx : a.eval x = .agg cs.toArray)
    (hr : ∀ w2, (Instr.buildSlice t 1 #[(0, .agg cs.toArray)]).run P w2 = .ok (.slice (some ⟨w2.heap.size, 0, none⟩) 1 1) (w2.alloc (.cells cs.toArray e)))
    (h : wpList P ops Q rest (a.put o.dst (.slice (some ⟨w.heap.size, 0, none⟩) 1 1)) (w.alloc (.cells cs.toArray e))) : wpList P ops Q (o :: rest) a w := by
  refine run hg _ _ ?_ h
  simp [execOp, ho, hx, hr]
/-- a call at a region's end -/
theorem tCall {P : Program} {w : World} {o : Oper} {Q : Exit → Act → World → Prop} {ops : Array Oper} {rest : List Oper} {a : Act} {f : FuncId} {fn : Func} (hf : P.funcs[f]? = some fn) (hbody : fn.body.isNone = false) (hname : (fn.name == "runtime.NumGoroutine") = false)
    {args : List Operand} {ts : Array TypeId} {vs : List Value} (hg : o.guard = none) (ho : o.op = .call { callee := .value (.func f), args := args.toArray, argTypes := ts }) (ha : args.map a.eval = vs)
    (hc : Calls P f vs.toArray w fun e w' => ∃ v, e = .returned v ∧ wpList P ops Q rest (a.put o.dst v) w') : wpList P ops Q (o :: rest) a w :=
  wpList_plain hg fun _ hK => by
    have hr : (execOp a.eval o).run P w = .ok (.enter f vs.toArray) w := by
      have n1 : ¬ fn.name = "runtime.NumGoroutine" := by simpa using hname
      have n2 : ¬ fn.body = none := by intro e; rw [e] at hbody; cases hbody
      rw [← ha]
      simp [execOp, ho, resolve, Act.eval, invoke, callFunc, hf, n1, n2, Deferred.ofValue]
    unfold Oper.wp
    rw [hr]
    refine hc.mono ?_
    rintro e w' ⟨v, rfl, h⟩
    exact hK _ _ h
/-- a struct of which but one field is told -/
theorem gBuildA {P : Program} {w : World} {o : Oper} {Q : Exit → Act → World → Prop} {ops : Array Oper} {rest : List Oper} {a : Act} {t : TypeId} {k : Nat} {x : Operand} {u : Value} (v : Value) (hg : o.guard = none) (ho : o.op = .build t #[(k, x)]) (hx : a.eval x = u) (hr : ∀ w2, (Instr.build t #[(k, u)]).run P w2 = .ok v w2)
    (h : wpList P ops Q rest (a.put o.dst v) w) : wpList P ops Q (o :: rest) a w := by
  refine run hg v w ?_ h
  simp [execOp, ho, hx, hr]
end Agg
end
section
/-
  ROOTS: rows of their own lie apart (from the log's texts).
-/
namespace Go.Proofs.Ytjnnnnolikbjcaa
open Go.ChangeShapes Go.WideShapes Go.ChangeAt Go.RowKit Agg Pg Dv
theorem own_own {w : World} {b1 b2 s1 s2 n1 n2 : Nat} {e1 e2 : TypeId} {v1 v2 : Value} {x1 x2 : List Value} (h1 : w.ownsRow b1 e1 s1 v1 n1 x1) (h2 : w.ownsRow b2 e2 s2 v2 n2 x2) (hne : e1 ≠ e2) : v1.ownBlock = none ∨ v1.ownBlock ≠ v2.ownBlock := by
  rcases h1.2 with ⟨rfl, _⟩ | ⟨g, cap, cur, rfl, _, h3, _⟩
  · exact .inl rfl
  · refine .inr (fun e => ?_)
    rcases h2.2 with ⟨rfl, _⟩ | ⟨g2, cap2, cur2, rfl, _, h4, _⟩
    · simp [Value.ownBlock] at e
    · simp only [Value.ownBlock, Option.map_some, Option.some.injEq] at e
      subst e
      rw [h3] at h4
      simp only [Option.some.injEq, Obj.cells.injEq] at h4
      exact hne h4.2.1
end Go.Proofs.Ytjnnnnolikbjcaa
end
section
/-
  DEVICES: what arguments of the statements hold.
-/
namespace Go.Proofs.Ytjnnnnolikbjcaa
open Go.ChangeShapes Go.WideShapes Go.ChangeAt Go.RowKit Agg Pg Dv

def FlOk (f : Fl) : Prop := f.Ok ∧ (Lit.int .i64 f.page).wf = true
theorem u64_nat {z : Int} (h : (Lit.int .u64 z).wf = true) : ∃ n : Nat, z = n ∧ n < 18446744073709551616 := by
  simp [Lit.wf, IntKind.min, IntKind.max, IntKind.signed, IntKind.bits] at h
  exact ⟨z.toNat, by omega, by omega⟩
theorem u8_byte {z : Int} (h : (Lit.int .u8 z).wf = true) : ∃ b : UInt8, z = b.toNat := by
  simp [Lit.wf, IntKind.min, IntKind.max, IntKind.signed, IntKind.bits] at h
  exact ⟨UInt8.ofNat z.toNat, by rw [UInt8.toNat_ofNat']; omega⟩
theorem good_int {w : World} {fuel : Nat} {v : Value} (h : Agg.Good Try.prog w fuel 3 [v]) : ∃ z : Int, v = .int .i64 z ∧ (Lit.int .i64 z).wf = true := by
  have hf := good_fits fuel 1 3 [some .i64] [v] (by kernel_rfl) h
  obtain ⟨x, r, he, ⟨z, rfl, hz⟩, _⟩ := Agg.Fits.cons hf
  simp only [List.cons.injEq] at he
  exact ⟨z, he.1, hz⟩
theorem good_bool {w : World} {fuel : Nat} {v : Value} (h : Agg.Good Try.prog w fuel 4 [v]) : ∃ z : Bool, v = .bool z := by
  have hf := good_fits fuel 1 4 [none] [v] (by kernel_rfl) h
  obtain ⟨x, r, he, ⟨z, rfl⟩, _⟩ := Agg.Fits.cons hf
  simp only [List.cons.injEq] at he
  exact ⟨z, he.1⟩
theorem iC_flat : ∀ l : List Int, iC l = l.flatMap (fun z => [Value.int .i64 z])
  | [] => rfl
  | a :: r => by rw [List.flatMap_cons, ← iC_flat r]; rfl
theorem good_ints {w : World} {fuel : Nat} {v : Value} (h : Agg.Good Try.prog w fuel 24 [v]) : ∃ l : List Int, Ints w v l ∧ (∀ z ∈ l, (Lit.int .i64 z).wf = true) ∧ l.length ≤ maxLen := by
  obtain ⟨l, h1, h2, h3⟩ := good_sl (α := Int) Try.underlying24 (sz := 1) (by kernel_rfl) (fun z => [.int .i64 z]) (fun z => (Lit.int .i64 z).wf = true) (fun _ => rfl) (fun fu cs hg => by
    have hf := good_fits fu 1 3 [some .i64] cs (by kernel_rfl) hg
    obtain ⟨x, r, rfl, ⟨z, rfl, hz⟩, hf2⟩ := Agg.Fits.cons hf
    rw [hf2.nil]
    exact ⟨z, rfl, hz⟩) h
  refine ⟨l, ?_, h2, h3⟩
  show SlR _ _ _ _ _
  have e := iC_flat l
  rw [e]; exact h1
/-- a device that is told, in memory -/
def LaidOk (w : World) (x : LaidD) (fv cv : Value) : Prop := Fls w fv x.fills ∧ Fls w cv x.cache ∧ (∀ f ∈ x.fills, FlOk f) ∧ ∀ f ∈ x.cache, FlOk f
theorem LaidOk.keep {w w' : World} {x : LaidD} {fv cv : Value} (h : LaidOk w x fv cv) (hb : Below w.heap.size w w') : LaidOk w' x fv cv := ⟨SlR.keep h.1 hb, SlR.keep h.2.1 hb, h.2.2⟩
/-- an op, in memory -/
def OpOk (w : World) (o : OpD) (mv : Value) : Prop := FlOk o.fl ∧ Ints w mv o.ms ∧ (Lit.int .i64 o.n).wf = true
theorem OpOk.keep {w w' : World} {o : OpD} {mv : Value} (h : OpOk w o mv) (hb : Below w.heap.size w w') : OpOk w' o mv := ⟨h.1, SlR.keep h.2.1 hb, h.2.2⟩
/-- ops in memory -/
def opsC (l : List (OpD × Value)) : List Value := l.flatMap fun x => opC x.1 x.2
def Opss (w : World) (v : Value) (l : List (OpD × Value)) : Prop := SlR w v 9 l.length (opsC l) ∧ ∀ x ∈ l, OpOk w x.1 x.2
theorem Opss.keep {w w' : World} {v : Value} {l : List (OpD × Value)} (h : Opss w v l) (hb : Below w.heap.size w w') : Opss w' v l := ⟨SlR.keep h.1 hb, fun x hx => (h.2 x hx).keep hb⟩
end Go.Proofs.Ytjnnnnolikbjcaa
end
