/-
  DEVICES: in plain Lean: a lit fuse; what is said and what is safe; what settles.
-/
import Derived.Test.YtjnnnnolikbjcaaRFdDw1
namespace Go.Proofs.Ytjnnnnolikbjcaa
open Go.ChangeShapes Go.WideShapes Go.ChangeAt Go.RowKit Agg Pg Dv

/-- a lit device: so many puts and flushes are left -/
def LitD (d : Dev) (m : Nat) : Prop := rightD d = true ∧ d.off = false ∧ d.fuse = (m : Int)
theorem right_six {d : Dev} (h : rightD d = true) : 24 ≤ d.pages.length ∧ d.pages.length ≤ 256 ∧ -1 ≤ d.fuse ∧ d.fuse ≤ 10000 ∧ (d.off = true → d.fuse = -1) ∧ ∀ x ∈ d.cache, thereB d.pages.length x.1 = true := by
  simp only [rightD, Bool.and_eq_true, decide_eq_true_eq, Bool.or_eq_true, Bool.not_eq_true', List.all_eq_true] at h
  obtain ⟨⟨⟨⟨⟨h1, h2⟩, h3⟩, h4⟩, h5⟩, h6⟩ := h
  exact ⟨h1, h2, h3, h4, fun e => by rcases h5 with h5 | h5 <;> simp_all, h6⟩
theorem right_of {d : Dev} (h1 : 24 ≤ d.pages.length) (h2 : d.pages.length ≤ 256) (h3 : -1 ≤ d.fuse) (h4 : d.fuse ≤ 10000) (h5 : d.off = true → d.fuse = -1) (h6 : ∀ x ∈ d.cache, thereB d.pages.length x.1 = true) : rightD d = true := by
  simp only [rightD, Bool.and_eq_true, decide_eq_true_eq, Bool.or_eq_true, Bool.not_eq_true', List.all_eq_true]
  refine ⟨⟨⟨⟨⟨h1, h2⟩, h3⟩, h4⟩, ?_⟩, h6⟩
  cases h : d.off
  · exact .inl rfl
  · exact .inr (h5 h)
/-- the power is off -/
def offD (d : Dev) : Dev := { d with fuse := -1, off := true }
theorem offD_right {d : Dev} (h : rightD d = true) : rightD (offD d) = true := by
  obtain ⟨h1, h2, h3, h4, h5, h6⟩ := right_six h
  exact right_of h1 h2 (show (-1 : Int) ≤ -1 by decide) (show (-1 : Int) ≤ 10000 by decide) (fun _ => rfl) h6
theorem offD_read {d : Dev} (h : rightD d = true) (k : Int) : readP (offD d) k = (10, zeroB) := by
  rw [readP, offD_right h]; rfl
theorem offD_flush {d : Dev} (h : rightD d = true) : goesP (offD d) (flushP (offD d)) = (10, offD d) := by
  rw [goesP, offD_right h]; rfl
theorem burn_zero {d : Dev} (h : LitD d 0) : burnD d = offD d := by
  obtain ⟨h1, h2, h3⟩ := h
  simp [burnD, burnF, h3, offD]
theorem burn_pos {d : Dev} {m : Nat} (h : LitD d (m + 1)) : burnD d = { d with fuse := (m : Int), off := false } := by
  obtain ⟨h1, h2, h3⟩ := h
  have e1 : ¬ ((m : Int) + 1 = 0) := by omega
  have e2 : (0 : Int) < (m : Int) + 1 := by omega
  simp only [burnD, burnF, h3, h2, Int.natCast_add, Int.natCast_one, if_neg e1, if_pos e2]
  congr 1
  omega
theorem goes_lit {d : Dev} {m : Nat} (h : LitD d m) (r : Int × Dev) (hr : r.1 = 0 ∨ r.1 = 10) : goesP d r = r := by
  obtain ⟨h1, h2, h3⟩ := h
  rw [goesP, h1, h2]
  simp only [Bool.true_eq_false, Bool.false_eq_true, if_false, ne_eq]
  rw [if_neg (by omega)]
theorem fuse_step {o : OpD} {d : Dev} {m : Nat} (hk : kindN o.kind < 3) (h : LitD d m) (hg : DGood d) :
    (doesP o d).1 = 4 ∨ (∃ m', m = m' + 1 ∧ (doesP o d).1 = 0 ∧ LitD (doesP o d).2 m') ∨ (m = 0 ∧ doesP o d = (10, offD d)) := by
  have hh := h
  obtain ⟨h1, h2, h3⟩ := hh
  obtain ⟨p1, p2, p3, p4, p5, p6⟩ := right_six h1
  by_cases hk2 : kindN o.kind < 2
  · have e : doesP o d = goesP d (putP d o.fl.page (fillB o.fl)) := by rw [doesP, if_pos hk2]
    rw [e]
    cases ht : thereB d.pages.length o.fl.page
    · left
      rw [putP, if_pos ht, goesP, h1, h2]
      rfl
    · right
      have e1 : putP d o.fl.page (fillB o.fl) = if (burnD d).off then (10, burnD d) else (0, { burnD d with cache := d.cache ++ [(o.fl.page, fillB o.fl)] }) := by rw [putP, if_neg (by rw [ht]; decide)]
      cases m with
      | zero =>
        right
        rw [e1, burn_zero h]
        exact ⟨rfl, goes_lit h _ (.inr rfl)⟩
      | succ m' =>
        left
        rw [e1, burn_pos h]
        simp only [Bool.false_eq_true, if_false]
        rw [goes_lit h _ (.inl rfl)]
        refine ⟨m', rfl, rfl, right_of p1 p2 (show (-1 : Int) ≤ (m' : Int) by omega) (show (m' : Int) ≤ 10000 by omega) (fun e => absurd e (by simp)) ?_, rfl, rfl⟩
        intro x hx
        rcases List.mem_append.1 hx with hx | hx
        · exact p6 x hx
        · rw [List.mem_singleton.1 hx]; exact ht
  · have hk3 : kindN o.kind = 2 := by omega
    have e : doesP o d = goesP d (flushP d) := by rw [doesP, if_neg hk2, if_pos hk3]
    rw [e]
    right
    cases m with
    | zero =>
      right
      rw [flushP, burn_zero h]
      exact ⟨rfl, goes_lit h _ (.inr rfl)⟩
    | succ m' =>
      left
      rw [flushP, burn_pos h]
      simp only [Bool.false_eq_true, if_false]
      rw [goes_lit h _ (.inl rfl)]
      have hl := (settleAll_ok hg.pages d.cache hg.cache).1
      exact ⟨m', rfl, rfl, right_of (by show 24 ≤ (settleAll _ _).length; omega) (by show (settleAll _ _).length ≤ 256; omega) (show (-1 : Int) ≤ (m' : Int) by omega) (show (m' : Int) ≤ 10000 by omega) (fun e => absurd e (by simp)) (fun x hx => absurd hx (by simp)), rfl, rfl⟩
theorem light_lit {d : Dev} {m : Nat} (h : rightD d = true) (ho : d.off = false) (hm : m ≤ 10000) : goesP d (lightP d m) = (0, { d with fuse := (m : Int) }) ∧ LitD { d with fuse := (m : Int) } m := by
  obtain ⟨p1, p2, p3, p4, p5, p6⟩ := right_six h
  refine ⟨?_, right_of p1 p2 (show (-1 : Int) ≤ (m : Int) by omega) (show (m : Int) ≤ 10000 by omega) (fun e => absurd (show d.off = true from e) (by simp [ho])) p6, ho, rfl⟩
  have hl : lightP d m = (0, { d with fuse := (m : Int) }) := by rw [lightP, if_pos (by omega)]
  rw [goesP, hl]
  simp [h, ho]
theorem kind3 (k : Int) : ∃ j : Nat, wrap64 ((IntKind.u64.wrap k).tmod 3) = (j : Int) ∧ j < 3 := by
  have e : IntKind.u64.wrap k = k % 18446744073709551616 := by simp [IntKind.wrap, IntKind.bits, IntKind.signed]
  rw [e, Int.tmod_eq_emod_of_nonneg (by omega)]
  refine ⟨(k % 18446744073709551616 % 3).toNat, ?_, by omega⟩
  generalize hz : k % 18446744073709551616 % 3 = z
  have h0 : 0 ≤ z := by omega
  have h3 : z < 3 := by omega
  rw [show wrap64 z = z by unfold wrap64; omega]
  omega
theorem kindN_small {j : Nat} (h : j < 3) : kindN (j : Int) = j := by
  unfold kindN
  rw [Int.emod_eq_of_lt (by omega) (by omega), Int.emod_eq_of_lt (by omega) (by omega)]
  omega

/-- behind all writes, each wholly, a page is what it says -/
theorem settle_getD (P : List (List Sec)) (x : Int × List Sec) (m : Int) (p : Nat) (h : p < P.length) : (settle P x m).getD p zeroB = if x.1.toNat = p then mixB (P.getD p zeroB) x.2 m else P.getD p zeroB := by
  unfold settle
  rw [List.getD_eq_getElem?_getD, List.getElem?_set]
  by_cases e : x.1.toNat = p
  · subst e; simp [h]
  · simp [e, List.getD_eq_getElem?_getD]
theorem mixB_all (old new : List Sec) (h : new.length = 4) : mixB old new 15 = new := by
  match new, h with
  | [a, b, c, d], _ => rfl
theorem saysP_cons (P : List (List Sec)) (x : Int × List Sec) (l : List (Int × List Sec)) (k : Int) (hk : 0 ≤ k) (hx : 0 ≤ x.1) (hp : k.toNat < P.length) (h4 : x.2.length = 4) : saysP P (x :: l) k = saysP (settle P x 15) l k := by
  unfold saysP
  rw [settle_getD _ _ _ _ hp, mixB_all _ _ h4]
  unfold ofPage
  by_cases e : x.1 = k
  · rw [List.filter_cons, if_pos (by simpa using e), List.map_cons, List.getLast?_cons, if_pos (by rw [e]), Option.getD_some]
  · rw [List.filter_cons, if_neg (by simpa using e), if_neg (by omega)]
theorem settleAll_says (P : List (List Sec)) (l : List (Int × List Sec)) (hl : ∀ x ∈ l, thereB P.length x.1 = true ∧ x.2.length = 4) (p : Nat) (hp : p < P.length) : (settleAll P l).getD p zeroB = saysP P l p := by
  induction l generalizing P with
  | nil => simp [settleAll, saysP_zero]
  | cons x l ih =>
    obtain ⟨hx, h4⟩ := hl x (by simp)
    obtain ⟨q, hq, _⟩ := there_nat hx
    have e := ih (settle P x 15) (fun y hy => by rw [settle_length]; exact hl y (by simp [hy])) (by rw [settle_length]; exact hp)
    show (settleAll (settle P x 15) l).getD p zeroB = _
    rw [e, saysP_cons P x l p (by omega) (by omega) (by simpa using hp) h4]
/-- what all pages of a device say -/
def saidL (d : Dev) : List (List Sec) := (List.range 24).map fun p : Nat => saysP d.pages d.cache (p : Int)
theorem saidL_length (d : Dev) : (saidL d).length = 24 := by simp [saidL]
theorem saidL_at (d : Dev) (p : Nat) (h : p < 24) : (saidL d)[p]'(by rw [saidL_length]; exact h) = saysP d.pages d.cache (p : Int) := by simp [saidL]
theorem saidL_pages {d d' : Dev} (h1 : d'.pages = d.pages) (h2 : d'.cache = d.cache) : saidL d' = saidL d := by unfold saidL; rw [h1, h2]
theorem saidL_nil {d : Dev} (h : d.pages.length = 24) (hc : d.cache = []) : saidL d = d.pages := by
  apply List.ext_getElem (by rw [saidL_length, h])
  intro p h1 h2
  rw [saidL_length] at h1
  rw [saidL_at d p h1, hc, saysP_zero, Int.toNat_natCast, List.getD_eq_getElem?_getD, List.getElem?_eq_getElem h2]; rfl
theorem saidL_put (d : Dev) (q : Nat) (b : List Sec) : saidL { d with cache := d.cache ++ [((q : Int), b)] } = (saidL d).set q b := by
  apply List.ext_getElem (by rw [List.length_set, saidL_length, saidL_length])
  intro p h1 h2
  rw [saidL_length] at h1
  rw [saidL_at _ p h1, List.getElem_set, saidL_at d p h1]
  have h := saysP_succ d.pages (d.cache ++ [((q : Int), b)]) (p : Int) d.cache.length (by simp)
  rw [List.take_of_length_le (by simp)] at h
  simp only [List.getElem_append_right (Nat.le_refl _), Nat.sub_self, List.getElem_cons_zero, List.take_append_of_le_length (Nat.le_refl _), List.take_length] at h
  rw [h]
  by_cases e : q = p
  · subst e; simp
  · rw [if_neg e, if_neg (by omega)]
theorem saidL_flush {d : Dev} (h24 : d.pages.length = 24) (hl : ∀ x ∈ d.cache, thereB d.pages.length x.1 = true ∧ x.2.length = 4) : settleAll d.pages d.cache = saidL d := by
  have hlen : (settleAll d.pages d.cache).length = 24 := by
    rw [← h24]; clear h24 hl
    generalize d.pages = P
    generalize d.cache = l
    induction l generalizing P with
    | nil => rfl
    | cons x l ih => show (settleAll (settle P x 15) l).length = _; rw [ih, settle_length]
  apply List.ext_getElem (by rw [saidL_length, hlen])
  intro p h1 h2
  rw [saidL_length] at h2
  rw [saidL_at d p h2, ← settleAll_says d.pages d.cache hl p (by omega), List.getD_eq_getElem?_getD, List.getElem?_eq_getElem h1]; rfl
/-- a device of 24 pages that may be -/
def KeepI (d : Dev) : Prop := rightD d = true ∧ d.pages.length = 24 ∧ DGood d
theorem burnD_right {d : Dev} (h : rightD d = true) : rightD (burnD d) = true := by
  obtain ⟨h1, h2, h3, h4, h5, h6⟩ := right_six h
  unfold burnD burnF
  split
  · exact right_of h1 h2 (show (-1 : Int) ≤ -1 by decide) (show (-1 : Int) ≤ 10000 by decide) (fun _ => rfl) h6
  · split
    · refine right_of h1 h2 (show -1 ≤ d.fuse - 1 by omega) (show d.fuse - 1 ≤ 10000 by omega) (fun e => ?_) h6
      have := h5 e; omega
    · exact right_of h1 h2 h3 h4 h5 h6
/-- what an op makes of what is said, and of what is safe -/
inductive Keeps (o : OpD) (d : Dev) (r : Int × Dev) : Prop
  | other (h0 : r.1 ≠ 0) (h10 : r.1 ≠ 10)
  | off (h : r.1 = 10) (hk : kindN o.kind < 4) (hr : KeepI r.2) (hs : saidL r.2 = saidL d) (hp : r.2.pages = d.pages)
  | crash (h : r.1 = 0) (hk : kindN o.kind = 4) (hr : KeepI r.2) (hs : saidL r.2 = d.pages) (hp : r.2.pages = d.pages) (ho : r.2.off = false)
  | put (h : r.1 = 0) (hk : kindN o.kind < 2) (q : Nat) (hq : o.fl.page = (q : Int)) (hq4 : q < 24) (hr : KeepI r.2) (hs : saidL r.2 = (saidL d).set q (fillB o.fl)) (hp : r.2.pages = d.pages) (ho : r.2.off = false)
  | flush (h : r.1 = 0) (hk : kindN o.kind = 2) (hr : KeepI r.2) (hs : saidL r.2 = saidL d) (hp : r.2.pages = saidL d) (ho : r.2.off = false)
  | light (h : r.1 = 0) (hk : kindN o.kind = 3) (hr : KeepI r.2) (hs : saidL r.2 = saidL d) (hp : r.2.pages = d.pages) (ho : r.2.off = false)
theorem goesP_on {d : Dev} {r : Int × Dev} (h : rightD d = true) (ho : d.off = false) (hr : r.1 = 0 ∨ r.1 = 10) : goesP d r = r := by
  rw [goesP, if_neg (by rw [h]; decide), if_neg (by rw [ho]; decide), if_neg (by omega)]
theorem goesP_no {d : Dev} {r : Int × Dev} (h : rightD d = true) (ho : d.off = false) (h0 : r.1 ≠ 0) (h10 : r.1 ≠ 10) : (goesP d r).1 = r.1 := by
  rw [goesP, if_neg (by rw [h]; decide), if_neg (by rw [ho]; decide), if_pos ⟨h0, h10⟩]
theorem goesP_off {d : Dev} {r : Int × Dev} (h : rightD d = true) (ho : d.off = true) : goesP d r = (10, d) := by
  rw [goesP, if_neg (by rw [h]; decide), if_pos ho]
theorem right_keep {d d' : Dev} (h : rightD d = true) (h1 : d'.pages.length = d.pages.length) (h2 : d'.fuse = d.fuse) (h3 : d'.off = d.off) (h4 : ∀ x ∈ d'.cache, thereB d.pages.length x.1 = true) : rightD d' = true := by
  obtain ⟨b1, b2, b3, b4, b5, b6⟩ := right_six h
  exact right_of (by omega) (by omega) (by omega) (by omega) (by rw [h3, h2]; exact b5) (by rw [h1]; exact h4)
theorem keeps (o : OpD) (d : Dev) (hf : o.fl.Ok) (h : KeepI d) (hms : kindN o.kind = 4 → o.ms = []) : Keeps o d (doesP o d) := by
  obtain ⟨hr, h24, hg⟩ := h
  have hg' := doesP_good hf hg
  obtain ⟨p1, p2, p3, p4, p5, p6⟩ := right_six hr
  have hb := burnD_right hr
  have hb24 : (burnD d).pages.length = 24 := h24
  have hbs : saidL (burnD d) = saidL d := saidL_pages rfl rfl
  by_cases hk4 : kindN o.kind = 4
  · have e : doesP o d = (0, ⟨d.pages, [], -1, false⟩) := by
      rw [doesP, if_neg (by omega), if_neg (by omega), if_neg (by omega), hms hk4, crashP, if_neg (by rw [hr]; decide), if_neg (by decide)]
      cases d.cache <;> rfl
    rw [e] at hg' ⊢
    exact .crash rfl hk4 ⟨right_of p1 p2 (show (-1 : Int) ≤ -1 by decide) (show (-1 : Int) ≤ 10000 by decide) (fun _ => rfl) (fun x hx => absurd hx (by simp)), h24, hg'⟩ (saidL_nil h24 rfl) rfl rfl
  obtain ⟨r, hre, hrk⟩ : ∃ r, doesP o d = goesP d r ∧ (if kindN o.kind < 2 then r = putP d o.fl.page (fillB o.fl) else if kindN o.kind = 2 then r = flushP d else r = lightP d o.n) := by
    by_cases hk : kindN o.kind < 2
    · exact ⟨_, by rw [doesP, if_pos hk], by rw [if_pos hk]⟩
    · by_cases hk2 : kindN o.kind = 2
      · exact ⟨_, by rw [doesP, if_neg hk, if_pos hk2], by rw [if_neg hk, if_pos hk2]⟩
      · exact ⟨_, by rw [doesP, if_neg hk, if_neg hk2, if_pos (by have := kindN_lt o.kind; omega)], by rw [if_neg hk, if_neg hk2]⟩
  rw [hre] at hg' ⊢
  cases hq : d.off
  case true =>
    rw [goesP_off hr hq]
    exact .off rfl (by have := kindN_lt o.kind; omega) ⟨hr, h24, hg⟩ rfl rfl
  have hoff : r = (10, burnD d) → Keeps o d (goesP d r) := fun e => by
    subst e
    rw [goesP_on hr hq (.inr rfl)] at hg' ⊢
    exact .off rfl (by have := kindN_lt o.kind; omega) ⟨hb, hb24, hg'⟩ hbs rfl
  by_cases hk : kindN o.kind < 2
  · rw [if_pos hk] at hrk
    cases ht : thereB d.pages.length o.fl.page
    · have e : r.1 = 4 := by rw [hrk, putP, if_pos ht]
      have e2 := goesP_no (r := r) hr hq (by omega) (by omega)
      exact .other (by omega) (by omega)
    · obtain ⟨q, hq1, hq2⟩ := there_nat ht
      rw [putP, if_neg (by rw [ht]; decide)] at hrk
      cases hbo : (burnD d).off
      · rw [if_neg (by rw [hbo]; decide)] at hrk
        subst hrk
        rw [goesP_on hr hq (.inl rfl)] at hg' ⊢
        refine .put rfl hk q hq1 (by omega) ⟨?_, hb24, hg'⟩ ?_ rfl hbo
        · refine right_keep hb rfl rfl rfl (fun x hx => ?_)
          rcases List.mem_append.1 hx with hx | hx
          · exact (right_six hb).2.2.2.2.2 x hx
          · rw [List.mem_singleton.1 hx]; exact ht
        · rw [hq1]; exact saidL_put (burnD d) q _
      · rw [if_pos hbo] at hrk
        exact hoff hrk
  · by_cases hk2 : kindN o.kind = 2
    · rw [if_neg hk, if_pos hk2, flushP] at hrk
      cases hbo : (burnD d).off
      · rw [if_neg (by rw [hbo]; decide)] at hrk
        subst hrk
        rw [goesP_on hr hq (.inl rfl)] at hg' ⊢
        have hsl := saidL_flush h24 (fun x hx => ⟨p6 x hx, (hg.cache x hx).1⟩)
        have h24' : (settleAll d.pages d.cache).length = 24 := by rw [hsl, saidL_length]
        exact .flush rfl hk2 ⟨right_keep hb (by show (settleAll _ _).length = _; rw [h24', hb24]) rfl rfl (fun x hx => absurd hx (by simp)), h24', hg'⟩ (by rw [saidL_nil h24' rfl]; exact hsl) hsl hbo
      · rw [if_pos hbo] at hrk
        exact hoff hrk
    · rw [if_neg hk, if_neg hk2, lightP] at hrk
      by_cases hn : 0 ≤ o.n ∧ o.n ≤ 10000
      · rw [if_pos hn] at hrk
        subst hrk
        rw [goesP_on hr hq (.inl rfl)] at hg' ⊢
        refine .light rfl (by have := kindN_lt o.kind; omega) ⟨right_of p1 p2 (show -1 ≤ o.n by omega) hn.2 (fun e => ?_) p6, h24, hg'⟩ (saidL_pages rfl rfl) rfl hq
        have e' : d.off = true := e
        rw [hq] at e'; exact absurd e' (by decide)
      · rw [if_neg hn] at hrk
        have e : r.1 = 2 := by rw [hrk]
        have e2 := goesP_no (r := r) hr hq (by omega) (by omega)
        exact .other (by omega) (by omega)
theorem keep_read {d : Dev} (h : KeepI d) (ho : d.off = false) (p : Nat) (hp : p < 24) : readP d p = (0, (saidL d)[p]'(by rw [saidL_length]; exact hp)) := by
  rw [readP, h.1, ho, saidL_at d p hp]
  simp only [Bool.true_eq_false, Bool.false_eq_true, if_false]
  rw [if_neg (by rw [thereB, h.2.1]; simp; omega)]
/-- a sector behind a crash: the last write of its page that came through there, else what it was -/
def wantS (k p : Nat) : Sec → List (Int × List Sec) → List Int → Sec
  | s, x :: l, m :: ms => wantS k p (if x.1 = (p : Int) ∧ (m / 2 ^ k) % 2 = 1 then x.2.getD k (0, []) else s) l ms
  | s, _, _ => s
theorem wantS_nil (k p : Nat) (s : Sec) (ms : List Int) : wantS k p s [] ms = s := by cases ms <;> rfl
theorem wantS_take (k p : Nat) (s : Sec) (l : List (Int × List Sec)) (ms : List Int) (i : Nat) (h : i < l.length) (h2 : i < ms.length) : wantS k p s (l.take (i + 1)) ms = if l[i].1 = (p : Int) ∧ (ms[i] / 2 ^ k) % 2 = 1 then l[i].2.getD k (0, []) else wantS k p s (l.take i) ms := by
  induction i generalizing s l ms with
  | zero =>
    match l, ms, h, h2 with
    | x :: l, m :: ms, _, _ => simp [wantS, wantS_nil]
  | succ i ih =>
    match l, ms, h, h2 with
    | x :: l, m :: ms, h, h2 => simpa [wantS] using ih (if x.1 = (p : Int) ∧ (m / 2 ^ k) % 2 = 1 then x.2.getD k (0, []) else s) l ms (by simpa using h) (by simpa using h2)
theorem mixB_getD (old new : List Sec) (m : Int) (k : Nat) (h : k < 4) : (mixB old new m).getD k (0, []) = if (m / 2 ^ k) % 2 = 1 then new.getD k (0, []) else old.getD k (0, []) := by
  unfold mixB
  rw [List.getD_eq_getElem?_getD, List.getElem?_map, List.getElem?_range h]
  simp only [Option.map_some, Option.getD_some]
theorem settleBy_sec (P : List (List Sec)) (l : List (Int × List Sec)) (ms : List Int) (hl : ∀ x ∈ l, 0 ≤ x.1) (k p : Nat) (hk : k < 4) (hp : p < P.length) : ((settleBy P l ms).getD p zeroB).getD k (0, []) = wantS k p ((P.getD p zeroB).getD k (0, [])) l ms := by
  induction l generalizing P ms with
  | nil => rw [wantS_nil]; cases ms <;> rfl
  | cons x l ih =>
    cases ms with
    | nil => rfl
    | cons m ms =>
      have e := ih (settle P x m) ms (fun y hy => hl y (by simp [hy])) (by rw [settle_length]; exact hp)
      show ((settleBy (settle P x m) l ms).getD p zeroB).getD k (0, []) = wantS k p (if x.1 = (p : Int) ∧ (m / 2 ^ k) % 2 = 1 then x.2.getD k (0, []) else _) l ms
      rw [e, settle_getD _ _ _ _ hp]
      congr 1
      have h0 := hl x (by simp)
      by_cases e1 : x.1.toNat = p
      · rw [if_pos e1, mixB_getD _ _ _ _ hk]
        by_cases e2 : (m / 2 ^ k) % 2 = 1
        · rw [if_pos e2, if_pos ⟨by omega, e2⟩]
        · rw [if_neg e2, if_neg (fun h => e2 h.2)]
      · rw [if_neg e1, if_neg (fun h => e1 (by omega))]
theorem settleBy_all (P : List (List Sec)) (l : List (Int × List Sec)) (ms : List Int) (h : ms = List.replicate l.length 15) : settleBy P l ms = settleAll P l := by
  subst h
  induction l generalizing P with
  | nil => rfl
  | cons x l ih => exact ih (settle P x 15)
end Go.Proofs.Ytjnnnnolikbjcaa
