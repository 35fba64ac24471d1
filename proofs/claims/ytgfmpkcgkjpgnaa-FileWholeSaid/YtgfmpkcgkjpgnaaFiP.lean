/-
  DEVICES: in plain Lean: a lit fuse; what is said and what is safe; what settles.
-/
import Derived.Test.YtgfmpkcgkjpgnaaFi1
import Derived.Test.YtgfmpkcgkjpgnaaFpPg5
import Derived.Test.YtgfmpkcgkjpgnaaFi8
section
namespace Go.Proofs.Ytgfmpkcgkjpgnaa
open Go.ChangeShapes Go.WideShapes Go.ChangeAt Go.RowKit Agg Pg Dv

/-- a lit device: so many puts and flushes are left -/
def LitD (d : Dev) (m : Nat) : Prop := rightD d = true ∧ d.off = false ∧ d.fuse = (m : Int)
theorem right_six {d : Dev} (h : rightD d = true) : 24 ≤ d.pages.length ∧ d.pages.length ≤ 256 ∧ -1 ≤ d.fuse ∧ d.fuse ≤ 10000 ∧ (d.off = true → d.fuse = -1) ∧ ∀ x ∈ d.cache, thereB d.pages.length x.1 = true := by
  simp only [rightD, Bool.and_eq_true, decide_eq_true_eq, Bool.or_eq_true, Bool.not_eq_true', List.all_eq_true] at h
  obtain ⟨⟨⟨⟨⟨h1, h2⟩, h3⟩, h4⟩, h5⟩, h6⟩ := h
  exact ⟨h1, h2, h3, h4, fun e => by rcases h5 with h5 | h5 <;> simp_all, h6⟩
theorem right_of {d : Dev} (h1 : 24 ≤ d.pages.length) (h2 : d.pages.length ≤ 256) (h3 : -1 ≤ d.fuse) (h4 : d.fuse ≤ 10000) (h5 : d.off = true → d.fuse = -1) (h6 : ∀ x ∈ d.cache, thereB d.pages.length x.1 = true) : rightD d = true := by
  simp only [rightD, Bool.and_eq_true, decide_eq_true_eq, Bool.or_eq_true, Bool.not_eq_true', List.all_eq_true]
  refine ⟨⟨⟨⟨⟨h1, h2⟩, h3⟩, h4⟩, ?_⟩, h6⟩
  cases h : d.off
  · exact .inl rfl
  · exact .inr (h5 h)
/-- the power is off -/
def offD (d : Dev) : Dev := { d with fuse := -1, off := true }
theorem offD_right {d : Dev} (h : rightD d = true) : rightD (offD d) = true := by
  obtain ⟨h1, h2, h3, h4, h5, h6⟩ := right_six h
  exact right_of h1 h2 (show (-1 : Int) ≤ -1 by decide) (show (-1 : Int) ≤ 10000 by decide) (fun _ => rfl) h6
theorem offD_read {d : Dev} (h : rightD d = true) (k : Int) : readP (offD d) k = (10, zeroB) := by
  rw [readP, offD_right h]; rfl
theorem offD_flush {d : Dev} (h : rightD d = true) : goesP (offD d) (flushP (offD d)) = (10, offD d) := by
  rw [goesP, offD_right h]; rfl
theorem burn_zero {d : Dev} (h : LitD d 0) : burnD d = offD d := by
  obtain ⟨h1, h2, h3⟩ := h
  simp [burnD, burnF, h3, offD]
theorem burn_pos {d : Dev} {m : Nat} (h : LitD d (m + 1)) : burnD d = { d with fuse := (m : Int), off := false } := by
  obtain ⟨h1, h2, h3⟩ := h
  have e1 : ¬ ((m : Int) + 1 = 0) := by omega
  have e2 : (0 : Int) < (m : Int) + 1 := by omega
  simp only [burnD, burnF, h3, h2, Int.natCast_add, Int.natCast_one, if_neg e1, if_pos e2]
  congr 1
  omega
theorem goes_lit {d : Dev} {m : Nat} (h : LitD d m) (r : Int × Dev) (hr : r.1 = 0 ∨ r.1 = 10) : goesP d r = r := by
  obtain ⟨h1, h2, h3⟩ := h
  rw [goesP, h1, h2]
  simp only [Bool.true_eq_false, Bool.false_eq_true, if_false, ne_eq]
  rw [if_neg (by omega)]
theorem fuse_step {o : OpD} {d : Dev} {m : Nat} (hk : kindN o.kind < 3) (h : LitD d m) (hg : DGood d) :
    (doesP o d).1 = 4 ∨ (∃ m', m = m' + 1 ∧ (doesP o d).1 = 0 ∧ LitD (doesP o d).2 m') ∨ (m = 0 ∧ doesP o d = (10, offD d)) := by
  have hh := h
  obtain ⟨h1, h2, h3⟩ := hh
  obtain ⟨p1, p2, p3, p4, p5, p6⟩ := right_six h1
  by_cases hk2 : kindN o.kind < 2
  · have e : doesP o d = goesP d (putP d o.fl.page (fillB o.fl)) := by rw [doesP, if_pos hk2]
    rw [e]
    cases ht : thereB d.pages.length o.fl.page
    · left
      rw [putP, if_pos ht, goesP, h1, h2]
      rfl
    · right
      have e1 : putP d o.fl.page (fillB o.fl) = if (burnD d).off then (10, burnD d) else (0, { burnD d with cache := d.cache ++ [(o.fl.page, fillB o.fl)] }) := by rw [putP, if_neg (by rw [ht]; decide)]
      cases m with
      | zero =>
        right
        rw [e1, burn_zero h]
        exact ⟨rfl, goes_lit h _ (.inr rfl)⟩
      | succ m' =>
        left
        rw [e1, burn_pos h]
        simp only [Bool.false_eq_true, if_false]
        rw [goes_lit h _ (.inl rfl)]
        refine ⟨m', rfl, rfl, right_of p1 p2 (show (-1 : Int) ≤ (m' : Int) by omega) (show (m' : Int) ≤ 10000 by omega) (fun e => absurd e (by simp)) ?_, rfl, rfl⟩
        intro x hx
        rcases List.mem_append.1 hx with hx | hx
        · exact p6 x hx
        · rw [List.mem_singleton.1 hx]; exact ht
  · have hk3 : kindN o.kind = 2 := by omega
    have e : doesP o d = goesP d (flushP d) := by rw [doesP, if_neg hk2, if_pos hk3]
    rw [e]
    right
    cases m with
    | zero =>
      right
      rw [flushP, burn_zero h]
      exact ⟨rfl, goes_lit h _ (.inr rfl)⟩
    | succ m' =>
      left
      rw [flushP, burn_pos h]
      simp only [Bool.false_eq_true, if_false]
      rw [goes_lit h _ (.inl rfl)]
      have hl := (settleAll_ok hg.pages d.cache hg.cache).1
      exact ⟨m', rfl, rfl, right_of (by show 24 ≤ (settleAll _ _).length; omega) (by show (settleAll _ _).length ≤ 256; omega) (show (-1 : Int) ≤ (m' : Int) by omega) (show (m' : Int) ≤ 10000 by omega) (fun e => absurd e (by simp)) (fun x hx => absurd hx (by simp)), rfl, rfl⟩
theorem light_lit {d : Dev} {m : Nat} (h : rightD d = true) (ho : d.off = false) (hm : m ≤ 10000) : goesP d (lightP d m) = (0, { d with fuse := (m : Int) }) ∧ LitD { d with fuse := (m : Int) } m := by
  obtain ⟨p1, p2, p3, p4, p5, p6⟩ := right_six h
  refine ⟨?_, right_of p1 p2 (show (-1 : Int) ≤ (m : Int) by omega) (show (m : Int) ≤ 10000 by omega) (fun e => absurd (show d.off = true from e) (by simp [ho])) p6, ho, rfl⟩
  have hl : lightP d m = (0, { d with fuse := (m : Int) }) := by rw [lightP, if_pos (by omega)]
  rw [goesP, hl]
  simp [h, ho]
theorem kind3 (k : Int) : ∃ j : Nat, wrap64 ((IntKind.u64.wrap k).tmod 3) = (j : Int) ∧ j < 3 := by
  have e : IntKind.u64.wrap k = k % 18446744073709551616 := by simp [IntKind.wrap, IntKind.bits, IntKind.signed]
  rw [e, Int.tmod_eq_emod_of_nonneg (by omega)]
  refine ⟨(k % 18446744073709551616 % 3).toNat, ?_, by omega⟩
  generalize hz : k % 18446744073709551616 % 3 = z
  have h0 : 0 ≤ z := by omega
  have h3 : z < 3 := by omega
  rw [show wrap64 z = z by unfold wrap64; omega]
  omega
theorem kindN_small {j : Nat} (h : j < 3) : kindN (j : Int) = j := by
  unfold kindN
  rw [Int.emod_eq_of_lt (by omega) (by omega), Int.emod_eq_of_lt (by omega) (by omega)]
  omega

/-- behind all writes, each wholly, a page is what it says -/
theorem settle_getD (P : List (List Sec)) (x : Int × List Sec) (m : Int) (p : Nat) (h : p < P.length) : (settle P x m).getD p zeroB = if x.1.toNat = p then mixB (P.getD p zeroB) x.2 m else P.getD p zeroB := by
  unfold settle
  rw [List.getD_eq_getElem?_getD, List.getElem?_set]
  by_cases e : x.1.toNat = p
  · subst e; simp [h]
  · simp [e, List.getD_eq_getElem?_getD]
theorem mixB_all (old new : List Sec) (h : new.length = 4) : mixB old new 15 = new := by
  match new, h with
  | [a, b, c, d], _ => rfl
theorem saysP_cons (P : List (List Sec)) (x : Int × List Sec) (l : List (Int × List Sec)) (k : Int) (hk : 0 ≤ k) (hx : 0 ≤ x.1) (hp : k.toNat < P.length) (h4 : x.2.length = 4) : saysP P (x :: l) k = saysP (settle P x 15) l k := by
  unfold saysP
  rw [settle_getD _ _ _ _ hp, mixB_all _ _ h4]
  unfold ofPage
  by_cases e : x.1 = k
  · rw [List.filter_cons, if_pos (by simpa using e), List.map_cons, List.getLast?_cons, if_pos (by rw [e]), Option.getD_some]
  · rw [List.filter_cons, if_neg (by simpa using e), if_neg (by omega)]
theorem settleAll_says (P : List (List Sec)) (l : List (Int × List Sec)) (hl : ∀ x ∈ l, thereB P.length x.1 = true ∧ x.2.length = 4) (p : Nat) (hp : p < P.length) : (settleAll P l).getD p zeroB = saysP P l p := by
  induction l generalizing P with
  | nil => simp [settleAll, saysP_zero]
  | cons x l ih =>
    obtain ⟨hx, h4⟩ := hl x (by simp)
    obtain ⟨q, hq, _⟩ := there_nat hx
    have e := ih (settle P x 15) (fun y hy => by rw [settle_length]; exact hl y (by simp [hy])) (by rw [settle_length]; exact hp)
    show (settleAll (settle P x 15) l).getD p zeroB = _
    rw [e, saysP_cons P x l p (by omega) (by omega) (by simpa using hp) h4]
/-- what all pages of a device say -/
def saidL (d : Dev) : List (List Sec) := (List.range 24).map fun p : Nat => saysP d.pages d.cache (p : Int)
theorem saidL_length (d : Dev) : (saidL d).length = 24 := by simp [saidL]
theorem saidL_at (d : Dev) (p : Nat) (h : p < 24) : (saidL d)[p]'(by rw [saidL_length]; exact h) = saysP d.pages d.cache (p : Int) := by simp [saidL]
theorem saidL_pages {d d' : Dev} (h1 : d'.pages = d.pages) (h2 : d'.cache = d.cache) : saidL d' = saidL d := by unfold saidL; rw [h1, h2]
theorem saidL_nil {d : Dev} (h : d.pages.length = 24) (hc : d.cache = []) : saidL d = d.pages := by
  apply List.ext_getElem (by rw [saidL_length, h])
  intro p h1 h2
  rw [saidL_length] at h1
  rw [saidL_at d p h1, hc, saysP_zero, Int.toNat_natCast, List.getD_eq_getElem?_getD, List.getElem?_eq_getElem h2]; rfl
theorem saidL_put (d : Dev) (q : Nat) (b : List Sec) : saidL { d with cache := d.cache ++ [((q : Int), b)] } = (saidL d).set q b := by
  apply List.ext_getElem (by rw [List.length_set, saidL_length, saidL_length])
  intro p h1 h2
  rw [saidL_length] at h1
  rw [saidL_at _ p h1, List.getElem_set, saidL_at d p h1]
  have h := saysP_succ d.pages (d.cache ++ [((q : Int), b)]) (p : Int) d.cache.length (by simp)
  rw [List.take_of_length_le (by simp)] at h
  simp only [List.getElem_append_right (Nat.le_refl _), Nat.sub_self, List.getElem_cons_zero, List.take_append_of_le_length (Nat.le_refl _), List.take_length] at h
  rw [h]
  by_cases e : q = p
  · subst e; simp
  · rw [if_neg e, if_neg (by omega)]
theorem saidL_flush {d : Dev} (h24 : d.pages.length = 24) (hl : ∀ x ∈ d.cache, thereB d.pages.length x.1 = true ∧ x.2.length = 4) : settleAll d.pages d.cache = saidL d := by
  have hlen : (settleAll d.pages d.cache).length = 24 := by
    rw [← h24]; clear h24 hl
    generalize d.pages = P
    generalize d.cache = l
    induction l generalizing P with
    | nil => rfl
    | cons x l ih => show (settleAll (settle P x 15) l).length = _; rw [ih, settle_length]
  apply List.ext_getElem (by rw [saidL_length, hlen])
  intro p h1 h2
  rw [saidL_length] at h2
  rw [saidL_at d p h2, ← settleAll_says d.pages d.cache hl p (by omega), List.getD_eq_getElem?_getD, List.getElem?_eq_getElem h1]; rfl
/-- a device of 24 pages that may be -/
def KeepI (d : Dev) : Prop := rightD d = true ∧ d.pages.length = 24 ∧ DGood d
theorem burnD_right {d : Dev} (h : rightD d = true) : rightD (burnD d) = true := by
  obtain ⟨h1, h2, h3, h4, h5, h6⟩ := right_six h
  unfold burnD burnF
  split
  · exact right_of h1 h2 (show (-1 : Int) ≤ -1 by decide) (show (-1 : Int) ≤ 10000 by decide) (fun _ => rfl) h6
  · split
    · refine right_of h1 h2 (show -1 ≤ d.fuse - 1 by omega) (show d.fuse - 1 ≤ 10000 by omega) (fun e => ?_) h6
      have := h5 e; omega
    · exact right_of h1 h2 h3 h4 h5 h6
/-- what an op makes of what is said, and of what is safe -/
inductive Keeps (o : OpD) (d : Dev) (r : Int × Dev) : Prop
  | other (h0 : r.1 ≠ 0) (h10 : r.1 ≠ 10)
  | off (h : r.1 = 10) (hk : kindN o.kind < 4) (hr : KeepI r.2) (hs : saidL r.2 = saidL d) (hp : r.2.pages = d.pages)
  | crash (h : r.1 = 0) (hk : kindN o.kind = 4) (hr : KeepI r.2) (hs : saidL r.2 = d.pages) (hp : r.2.pages = d.pages) (ho : r.2.off = false)
  | put (h : r.1 = 0) (hk : kindN o.kind < 2) (q : Nat) (hq : o.fl.page = (q : Int)) (hq4 : q < 24) (hr : KeepI r.2) (hs : saidL r.2 = (saidL d).set q (fillB o.fl)) (hp : r.2.pages = d.pages) (ho : r.2.off = false)
  | flush (h : r.1 = 0) (hk : kindN o.kind = 2) (hr : KeepI r.2) (hs : saidL r.2 = saidL d) (hp : r.2.pages = saidL d) (ho : r.2.off = false)
  | light (h : r.1 = 0) (hk : kindN o.kind = 3) (hr : KeepI r.2) (hs : saidL r.2 = saidL d) (hp : r.2.pages = d.pages) (ho : r.2.off = false)
theorem goesP_on {d : Dev} {r : Int × Dev} (h : rightD d = true) (ho : d.off = false) (hr : r.1 = 0 ∨ r.1 = 10) : goesP d r = r := by
  rw [goesP, if_neg (by rw [h]; decide), if_neg (by rw [ho]; decide), if_neg (by omega)]
theorem goesP_no {d : Dev} {r : Int × Dev} (h : rightD d = true) (ho : d.off = false) (h0 : r.1 ≠ 0) (h10 : r.1 ≠ 10) : (goesP d r).1 = r.1 := by
  rw [goesP, if_neg (by rw [h]; decide), if_neg (by rw [ho]; decide), if_pos ⟨h0, h10⟩]
theorem goesP_off {d : Dev} {r : Int × Dev} (h : rightD d = true) (ho : d.off = true) : goesP d r = (10, d) := by
  rw [goesP, if_neg (by rw [h]; decide), if_pos ho]
theorem right_keep {d d' : Dev} (h : rightD d = true) (h1 : d'.pages.length = d.pages.length) (h2 : d'.fuse = d.fuse) (h3 : d'.off = d.off) (h4 : ∀ x ∈ d'.cache, thereB d.pages.length x.1 = true) : rightD d' = true := by
  obtain ⟨b1, b2, b3, b4, b5, b6⟩ := right_six h
  exact right_of (by omega) (by omega) (by omega) (by omega) (by rw [h3, h2]; exact b5) (by rw [h1]; exact h4)
theorem keeps (o : OpD) (d : Dev) (hf : o.fl.Ok) (h : KeepI d) (hms : kindN o.kind = 4 → o.ms = []) : Keeps o d (doesP o d) := by
  obtain ⟨hr, h24, hg⟩ := h
  have hg' := doesP_good hf hg
  obtain ⟨p1, p2, p3, p4, p5, p6⟩ := right_six hr
  have hb := burnD_right hr
  have hb24 : (burnD d).pages.length = 24 := h24
  have hbs : saidL (burnD d) = saidL d := saidL_pages rfl rfl
  by_cases hk4 : kindN o.kind = 4
  · have e : doesP o d = (0, ⟨d.pages, [], -1, false⟩) := by
      rw [doesP, if_neg (by omega), if_neg (by omega), if_neg (by omega), hms hk4, crashP, if_neg (by rw [hr]; decide), if_neg (by decide)]
      cases d.cache <;> rfl
    rw [e] at hg' ⊢
    exact .crash rfl hk4 ⟨right_of p1 p2 (show (-1 : Int) ≤ -1 by decide) (show (-1 : Int) ≤ 10000 by decide) (fun _ => rfl) (fun x hx => absurd hx (by simp)), h24, hg'⟩ (saidL_nil h24 rfl) rfl rfl
  obtain ⟨r, hre, hrk⟩ : ∃ r, doesP o d = goesP d r ∧ (if kindN o.kind < 2 then r = putP d o.fl.page (fillB o.fl) else if kindN o.kind = 2 then r = flushP d else r = lightP d o.n) := by
    by_cases hk : kindN o.kind < 2
    · exact ⟨_, by rw [doesP, if_pos hk], by rw [if_pos hk]⟩
    · by_cases hk2 : kindN o.kind = 2
      · exact ⟨_, by rw [doesP, if_neg hk, if_pos hk2], by rw [if_neg hk, if_pos hk2]⟩
      · exact ⟨_, by rw [doesP, if_neg hk, if_neg hk2, if_pos (by have := kindN_lt o.kind; omega)], by rw [if_neg hk, if_neg hk2]⟩
  rw [hre] at hg' ⊢
  cases hq : d.off
  case true =>
    rw [goesP_off hr hq]
    exact .off rfl (by have := kindN_lt o.kind; omega) ⟨hr, h24, hg⟩ rfl rfl
  have hoff : r = (10, burnD d) → Keeps o d (goesP d r) := fun e => by
    subst e
    rw [goesP_on hr hq (.inr rfl)] at hg' ⊢
    exact .off rfl (by have := kindN_lt o.kind; omega) ⟨hb, hb24, hg'⟩ hbs rfl
  by_cases hk : kindN o.kind < 2
  · rw [if_pos hk] at hrk
    cases ht : thereB d.pages.length o.fl.page
    · have e : r.1 = 4 := by rw [hrk, putP, if_pos ht]
      have e2 := goesP_no (r := r) hr hq (by omega) (by omega)
      exact .other (by omega) (by omega)
    · obtain ⟨q, hq1, hq2⟩ := there_nat ht
      rw [putP, if_neg (by rw [ht]; decide)] at hrk
      cases hbo : (burnD d).off
      · rw [if_neg (by rw [hbo]; decide)] at hrk
        subst hrk
        rw [goesP_on hr hq (.inl rfl)] at hg' ⊢
        refine .put rfl hk q hq1 (by omega) ⟨?_, hb24, hg'⟩ ?_ rfl hbo
        · refine right_keep hb rfl rfl rfl (fun x hx => ?_)
          rcases List.mem_append.1 hx with hx | hx
          · exact (right_six hb).2.2.2.2.2 x hx
          · rw [List.mem_singleton.1 hx]; exact ht
        · rw [hq1]; exact saidL_put (burnD d) q _
      · rw [if_pos hbo] at hrk
        exact hoff hrk
  · by_cases hk2 : kindN o.kind = 2
    · rw [if_neg hk, if_pos hk2, flushP] at hrk
      cases hbo : (burnD d).off
      · rw [if_neg (by rw [hbo]; decide)] at hrk
        subst hrk
        rw [goesP_on hr hq (.inl rfl)] at hg' ⊢
        have hsl := saidL_flush h24 (fun x hx => ⟨p6 x hx, (hg.cache x hx).1⟩)
        have h24' : (settleAll d.pages d.cache).length = 24 := by rw [hsl, saidL_length]
        exact .flush rfl hk2 ⟨right_keep hb (by show (settleAll _ _).length = _; rw [h24', hb24]) rfl rfl (fun x hx => absurd hx (by simp)), h24', hg'⟩ (by rw [saidL_nil h24' rfl]; exact hsl) hsl hbo
      · rw [if_pos hbo] at hrk
        exact hoff hrk
    · rw [if_neg hk, if_neg hk2, lightP] at hrk
      by_cases hn : 0 ≤ o.n ∧ o.n ≤ 10000
      · rw [if_pos hn] at hrk
        subst hrk
        rw [goesP_on hr hq (.inl rfl)] at hg' ⊢
        refine .light rfl (by have := kindN_lt o.kind; omega) ⟨right_of p1 p2 (show -1 ≤ o.n by omega) hn.2 (fun e => ?_) p6, h24, hg'⟩ (saidL_pages rfl rfl) rfl hq
        have e' : d.off = true := e
        rw [hq] at e'; exact absurd e' (by decide)
      · rw [if_neg hn] at hrk
        have e : r.1 = 2 := by rw [hrk]
        have e2 := goesP_no (r := r) hr hq (by omega) (by omega)
        exact .other (by omega) (by omega)
theorem keep_read {d : Dev} (h : KeepI d) (ho : d.off = false) (p : Nat) (hp : p < 24) : readP d p = (0, (saidL d)[p]'(by rw [saidL_length]; exact hp)) := by
  rw [readP, h.1, ho, saidL_at d p hp]
  simp only [Bool.true_eq_false, Bool.false_eq_true, if_false]
  rw [if_neg (by rw [thereB, h.2.1]; simp; omega)]
/-- a sector behind a crash: the last write of its page that came through there, else what it was -/
def wantS (k p : Nat) : Sec → List (Int × List Sec) → List Int → Sec
  | s, x :: l, m :: ms => wantS k p (if x.1 = (p : Int) ∧ (m / 2 ^ k) % 2 = 1 then x.2.getD k (0, []) else s) l ms
  | s, _, _ => s
theorem wantS_nil (k p : Nat) (s : Sec) (ms : List Int) : wantS k p s [] ms = s := by cases ms <;> rfl
theorem wantS_take (k p : Nat) (s : Sec) (l : List (Int × List Sec)) (ms : List Int) (i : Nat) (h : i < l.length) (h2 : i < ms.length) : wantS k p s (l.take (i + 1)) ms = if l[i].1 = (p : Int) ∧ (ms[i] / 2 ^ k) % 2 = 1 then l[i].2.getD k (0, []) else wantS k p s (l.take i) ms := by
  induction i generalizing s l ms with
  | zero =>
    match l, ms, h, h2 with
    | x :: l, m :: ms, _, _ => simp [wantS, wantS_nil]
  | succ i ih =>
    match l, ms, h, h2 with
    | x :: l, m :: ms, h, h2 => simpa [wantS] using ih (if x.1 = (p : Int) ∧ (m / 2 ^ k) % 2 = 1 then x.2.getD k (0, []) else s) l ms (by simpa using h) (by simpa using h2)
theorem mixB_getD (old new : List Sec) (m : Int) (k : Nat) (h : k < 4) : (mixB old new m).getD k (0, []) = if (m / 2 ^ k) % 2 = 1 then new.getD k (0, []) else old.getD k (0, []) := by
  unfold mixB
  rw [List.getD_eq_getElem?_getD, List.getElem?_map, List.getElem?_range h]
  simp only [Option.map_some, Option.getD_some]
theorem settleBy_sec (P : List (List Sec)) (l : List (Int × List Sec)) (ms : List Int) (hl : ∀ x ∈ l, 0 ≤ x.1) (k p : Nat) (hk : k < 4) (hp : p < P.length) : ((settleBy P l ms).getD p zeroB).getD k (0, []) = wantS k p ((P.getD p zeroB).getD k (0, [])) l ms := by
  induction l generalizing P ms with
  | nil => rw [wantS_nil]; cases ms <;> rfl
  | cons x l ih =>
    cases ms with
    | nil => rfl
    | cons m ms =>
      have e := ih (settle P x m) ms (fun y hy => hl y (by simp [hy])) (by rw [settle_length]; exact hp)
      show ((settleBy (settle P x m) l ms).getD p zeroB).getD k (0, []) = wantS k p (if x.1 = (p : Int) ∧ (m / 2 ^ k) % 2 = 1 then x.2.getD k (0, []) else _) l ms
      rw [e, settle_getD _ _ _ _ hp]
      congr 1
      have h0 := hl x (by simp)
      by_cases e1 : x.1.toNat = p
      · rw [if_pos e1, mixB_getD _ _ _ _ hk]
        by_cases e2 : (m / 2 ^ k) % 2 = 1
        · rw [if_pos e2, if_pos ⟨by omega, e2⟩]
        · rw [if_neg e2, if_neg (fun h => e2 h.2)]
      · rw [if_neg e1, if_neg (fun h => e1 (by omega))]
theorem settleBy_all (P : List (List Sec)) (l : List (Int × List Sec)) (ms : List Int) (h : ms = List.replicate l.length 15) : settleBy P l ms = settleAll P l := by
  subst h
  induction l generalizing P with
  | nil => rfl
  | cons x l ih => exact ih (settle P x 15)
end Go.Proofs.Ytgfmpkcgkjpgnaa
end
section
/-
  DEVICES WITH THEIR POWER, in plain Lean: writes one behind the other, what pages say behind them, behind a flush, behind a crash.
-/
namespace Go.Proofs.Ytgfmpkcgkjpgnaa
open Go.ChangeShapes Go.WideShapes Go.ChangeAt Go.RowKit Agg Pg Dv

/-- writes are put one behind the other, up to the first that is not -/
def putsP : Dev → List (Int × List Sec) → Int × Dev
  | d, [] => (0, d)
  | d, x :: l => if (goesP d (putP d x.1 x.2)).1 ≠ 0 then goesP d (putP d x.1 x.2) else putsP (goesP d (putP d x.1 x.2)).2 l
theorem putsP_good {l : List (Int × List Sec)} (hl : ∀ x ∈ l, BOk x.2) : ∀ {d : Dev}, DGood d → DGood (putsP d l).2 := by
  induction l with
  | nil => intro d h; exact h
  | cons x l ih =>
    intro d h
    have h1 := goesP_good h (putP_good h x.1 (hl x (by simp)))
    rw [putsP]
    split
    · exact h1
    · exact ih (fun y hy => hl y (by simp [hy])) h1
/-- a device with its power, no fuse lit -/
def PowD (d : Dev) : Prop := rightD d = true ∧ d.off = false ∧ d.fuse = -1
theorem burn_pow {d : Dev} (h : PowD d) : burnD d = d := by
  obtain ⟨P, l, z, q⟩ := d
  obtain ⟨_, h2, h3⟩ := h
  simp only at h2 h3
  subst h2; subst h3
  rfl
/-- .. with more that waits -/
def addD (d : Dev) (l : List (Int × List Sec)) : Dev := { d with cache := d.cache ++ l }
theorem addD_nil (d : Dev) : addD d [] = d := by unfold addD; rw [List.append_nil]
theorem addD_addD (d : Dev) (l m : List (Int × List Sec)) : addD (addD d l) m = addD d (l ++ m) := by unfold addD; simp only [List.append_assoc]
theorem put_pow {d : Dev} (h : PowD d) {k : Int} (hk : thereB d.pages.length k = true) (b : List Sec) : goesP d (putP d k b) = (0, addD d [(k, b)]) ∧ PowD (addD d [(k, b)]) := by
  have hb := burn_pow h
  obtain ⟨h1, h2, h3⟩ := h
  have e : putP d k b = (0, addD d [(k, b)]) := by rw [putP, if_neg (by rw [hk]; decide), hb, h2, if_neg (by decide)]; rfl
  refine ⟨by rw [e, goesP_on h1 h2 (.inl rfl)], ?_, h2, h3⟩
  refine right_keep h1 rfl rfl rfl (fun x hx => ?_)
  rcases List.mem_append.1 hx with hx | hx
  · exact (right_six h1).2.2.2.2.2 x hx
  · rw [List.mem_singleton.1 hx]; exact hk
theorem puts_pow {l : List (Int × List Sec)} : ∀ {d : Dev}, PowD d → (∀ x ∈ l, thereB d.pages.length x.1 = true) → putsP d l = (0, addD d l) ∧ PowD (addD d l) := by
  induction l with
  | nil => intro d h _; exact ⟨by rw [addD_nil]; rfl, by rw [addD_nil]; exact h⟩
  | cons x l ih =>
    intro d h hl
    obtain ⟨h1, h2⟩ := put_pow h (hl x (by simp)) x.2
    obtain ⟨h3, h4⟩ := ih h2 (fun y hy => hl y (by simp [hy]))
    rw [addD_addD] at h3 h4
    refine ⟨?_, h4⟩
    rw [putsP, h1, if_neg (by simp)]
    exact h3
theorem read_pow {d : Dev} (h1 : rightD d = true) (h2 : d.off = false) {k : Int} (hk : thereB d.pages.length k = true) : readP d k = (0, saysP d.pages d.cache k) := by
  rw [readP, if_neg (by rw [h1]; decide), if_neg (by rw [h2]; decide), if_neg (by rw [hk]; decide)]
theorem ofPage_none {k : Int} {l : List (Int × List Sec)} (h : ∀ x ∈ l, x.1 ≠ k) : ofPage k l = [] := by
  unfold ofPage
  rw [List.map_eq_nil_iff, List.filter_eq_nil_iff]
  intro x hx
  simpa using h x hx
theorem says_no {P : List (List Sec)} {c l : List (Int × List Sec)} {k : Int} (h : ∀ x ∈ l, x.1 ≠ k) : saysP P (c ++ l) k = saysP P c k := by
  unfold saysP
  rw [ofPage_append, ofPage_none h, List.append_nil]
theorem says_at {P : List (List Sec)} {c l1 l2 : List (Int × List Sec)} {k : Int} {b : List Sec} (h : ∀ x ∈ l2, x.1 ≠ k) : saysP P (c ++ (l1 ++ (k, b) :: l2)) k = b := by
  unfold saysP
  have e : ofPage k ((k, b) :: l2) = [b] := by
    have h2 := ofPage_append k [(k, b)] l2
    rw [ofPage_none h, List.append_nil] at h2
    rw [show (k, b) :: l2 = [(k, b)] ++ l2 from rfl, h2]
    simp [ofPage]
  rw [ofPage_append, ofPage_append, e, ← List.append_assoc, List.getLast?_append]
  rfl
/-- a flush, with its power -/
def flD (d : Dev) : Dev := { d with pages := settleAll d.pages d.cache, cache := [] }
theorem settleAll_len (P : List (List Sec)) (l : List (Int × List Sec)) : (settleAll P l).length = P.length := by
  induction l generalizing P with
  | nil => rfl
  | cons x l ih => show (settleAll (settle P x 15) l).length = _; rw [ih, settle_length]
theorem settleBy_len (P : List (List Sec)) (l : List (Int × List Sec)) (ms : List Int) : (settleBy P l ms).length = P.length := by
  induction l generalizing P ms with
  | nil => cases ms <;> rfl
  | cons x l ih =>
    cases ms with
    | nil => rfl
    | cons m ms => show (settleBy (settle P x m) l ms).length = _; rw [ih, settle_length]
theorem flush_pow {d : Dev} (h : PowD d) : goesP d (flushP d) = (0, flD d) ∧ PowD (flD d) := by
  have hb := burn_pow h
  obtain ⟨h1, h2, h3⟩ := h
  have e : flushP d = (0, flD d) := by rw [flushP, hb, h2, if_neg (by decide)]; rfl
  exact ⟨by rw [e, goesP_on h1 h2 (.inl rfl)], right_keep h1 (settleAll_len _ _) rfl rfl (fun x hx => absurd hx (by simp [flD])), h2, h3⟩
theorem says_flush {d : Dev} (hr : rightD d = true) (hg : DGood d) {k : Int} (hk : thereB d.pages.length k = true) : saysP (flD d).pages (flD d).cache k = saysP d.pages d.cache k := by
  obtain ⟨p, rfl, hp⟩ := there_nat hk
  show saysP (settleAll d.pages d.cache) [] (p : Int) = _
  rw [saysP_zero, Int.toNat_natCast]
  exact settleAll_says d.pages d.cache (fun x hx => ⟨(right_six hr).2.2.2.2.2 x hx, (hg.cache x hx).1⟩) p hp
/-- a crash -/
def crD (d : Dev) (ms : List Int) : Dev := ⟨settleBy d.pages d.cache ms, [], -1, false⟩
theorem crash_do {d : Dev} (h : rightD d = true) {ms : List Int} (hm : masksB ms = true) : crashP d ms = (0, crD d ms) ∧ PowD (crD d ms) := by
  obtain ⟨b1, b2, _⟩ := right_six h
  refine ⟨by rw [crashP, if_neg (by rw [h]; decide), if_neg (by rw [hm]; decide)]; rfl, right_of ?_ ?_ (show (-1 : Int) ≤ -1 by decide) (show (-1 : Int) ≤ 10000 by decide) (fun _ => rfl) (fun x hx => absurd hx (by simp [crD])), rfl, rfl⟩
  · show 24 ≤ (settleBy _ _ _).length; rw [settleBy_len]; exact b1
  · show (settleBy _ _ _).length ≤ 256; rw [settleBy_len]; exact b2
theorem settleBy_no (P : List (List Sec)) (l : List (Int × List Sec)) (ms : List Int) (p : Nat) (hp : p < P.length) (hl : ∀ x ∈ l, 0 ≤ x.1 ∧ x.1 ≠ (p : Int)) : (settleBy P l ms).getD p zeroB = P.getD p zeroB := by
  induction l generalizing P ms with
  | nil => cases ms <;> rfl
  | cons x l ih =>
    cases ms with
    | nil => rfl
    | cons m ms =>
      have h0 := hl x (by simp)
      show (settleBy (settle P x m) l ms).getD p zeroB = _
      rw [ih (settle P x m) ms (by rw [settle_length]; exact hp) (fun y hy => hl y (by simp [hy])), settle_getD _ _ _ _ hp, if_neg (by omega)]
/-- what a page is behind a crash: as far as its write came through -/
def came (old new : List Sec) : Option Int → List Sec
  | some m => mixB old new m
  | none => old
theorem settleBy_at (P : List (List Sec)) (l1 l2 : List (Int × List Sec)) (ms : List Int) (p : Nat) (b : List Sec) (hp : p < P.length) (h1 : ∀ x ∈ l1, 0 ≤ x.1 ∧ x.1 ≠ (p : Int)) (h2 : ∀ x ∈ l2, 0 ≤ x.1 ∧ x.1 ≠ (p : Int)) : (settleBy P (l1 ++ ((p : Int), b) :: l2) ms).getD p zeroB = came (P.getD p zeroB) b ms[l1.length]? := by
  induction l1 generalizing P ms with
  | nil =>
    cases ms with
    | nil => rfl
    | cons m ms =>
      show (settleBy (settle P ((p : Int), b) m) l2 ms).getD p zeroB = mixB (P.getD p zeroB) b m
      rw [settleBy_no _ _ _ _ (by rw [settle_length]; exact hp) h2, settle_getD _ _ _ _ hp, if_pos (by simp)]
  | cons x l ih =>
    cases ms with
    | nil => rfl
    | cons m ms =>
      have h0 := h1 x (by simp)
      show (settleBy (settle P x m) (l ++ ((p : Int), b) :: l2) ms).getD p zeroB = came (P.getD p zeroB) b ms[l.length]?
      rw [ih (settle P x m) ms (by rw [settle_length]; exact hp) (fun y hy => h1 y (by simp [hy])), settle_getD _ _ _ _ hp, if_neg (by omega)]
theorem mixB_none (old new : List Sec) (h : old.length = 4) : mixB old new 0 = old := by
  match old, h with
  | [a, b, c, d], _ => simp [mixB, List.range, List.range.loop]
theorem mem_getD {b : List Sec} (h : b.length = 4) (s : Sec) : s ∈ b ↔ ∃ k, k < 4 ∧ b.getD k (0, []) = s := by
  constructor
  · intro hs
    obtain ⟨k, hk, e⟩ := List.getElem_of_mem hs
    exact ⟨k, by omega, by rw [getD_mem k hk]; exact e⟩
  · rintro ⟨k, hk, rfl⟩
    rw [getD_mem k (by omega)]; exact List.getElem_mem _
theorem mixB_four (old new : List Sec) (m : Int) : (mixB old new m).length = 4 := by simp [mixB]
/-- of a write of which but some sectors came there is no stamp, if what lay there has other stamps -/
theorem torn (old new : List Sec) (m : Int) (n : Nat) (hm0 : 0 ≤ m) (hm : m < 16) (h0 : m ≠ 0) (h15 : m ≠ 15) (ho : old.length = 4) (hn : new.length = 4) (hos : ∀ s ∈ old, s.1 ≠ n) (hns : ∀ s ∈ new, s.1 = n) : stampB (mixB old new m) = false := by
  cases hs : stampB (mixB old new m) with
  | false => rfl
  | true =>
    simp only [stampB, Bool.and_eq_true, decide_eq_true_eq, List.all_eq_true, beq_iff_eq] at hs
    have hall : ∀ k, k < 4 → ((mixB old new m).getD k (0, [])).1 = st0 (mixB old new m) := fun k hk => hs.2 _ ((mem_getD (mixB_four old new m) _).2 ⟨k, hk, rfl⟩)
    have hbit : ∀ k, k < 4 → (((m / 2 ^ k) % 2 = 1 ∧ ((mixB old new m).getD k (0, [])).1 = n) ∨ ((m / 2 ^ k) % 2 ≠ 1 ∧ ((mixB old new m).getD k (0, [])).1 ≠ n)) := fun k hk => by
      rw [mixB_getD _ _ _ _ hk]
      by_cases h : (m / 2 ^ k) % 2 = 1
      · rw [if_pos h]; exact .inl ⟨h, hns _ ((mem_getD hn _).2 ⟨k, hk, rfl⟩)⟩
      · rw [if_neg h]; exact .inr ⟨h, hos _ ((mem_getD ho _).2 ⟨k, hk, rfl⟩)⟩
    have a0 := hall 0 (by decide)
    have a1 := hall 1 (by decide)
    have a2 := hall 2 (by decide)
    have a3 := hall 3 (by decide)
    have b0 := hbit 0 (by decide)
    have b1 := hbit 1 (by decide)
    have b2 := hbit 2 (by decide)
    have b3 := hbit 3 (by decide)
    rw [a0] at b0
    rw [a1] at b1
    rw [a2] at b2
    rw [a3] at b3
    simp only [Nat.reducePow, Int.reducePow] at b0 b1 b2 b3
    exfalso
    by_cases e : st0 (mixB old new m) = n
    · have c0 := b0.resolve_right (fun h => h.2 e)
      have c1 := b1.resolve_right (fun h => h.2 e)
      have c2 := b2.resolve_right (fun h => h.2 e)
      have c3 := b3.resolve_right (fun h => h.2 e)
      omega
    · have c0 := b0.resolve_left (fun h => e h.2)
      have c1 := b1.resolve_left (fun h => e h.2)
      have c2 := b2.resolve_left (fun h => e h.2)
      have c3 := b3.resolve_left (fun h => e h.2)
      omega
end Go.Proofs.Ytgfmpkcgkjpgnaa
end
section
/-
  FILES THAT ARE LAID, in plain Lean: writes one behind the other.
-/
namespace Go.Proofs.Ytgfmpkcgkjpgnaa
open Go.ChangeShapes Go.WideShapes Go.ChangeAt Go.RowKit Agg Pg Dv Fi
/-- a file's blocks, on their pages -/
def blksF (kind : Int) (n : Nat) (B : List UInt8) : Nat → List Int → List (Int × List Sec)
  | _, [] => []
  | i, a :: l => (a, layB kind (partB B i) (n + i)) :: blksF kind n B (i + 1) l
theorem blksF_drop (kind : Int) (n : Nat) (B : List UInt8) (A : List Int) (k : Nat) (h : k < A.length) : blksF kind n B k (A.drop k) = (A[k], layB kind (partB B k) (n + k)) :: blksF kind n B (k + 1) (A.drop (k + 1)) := by
  rw [List.drop_eq_getElem_cons h, blksF]
theorem partB_len (B : List UInt8) (i : Nat) : (partB B i).length ≤ 120 := by unfold partB; rw [List.length_take]; omega
theorem lay_bok (kind : Int) (d : List UInt8) (n : Nat) (h : d.length ≤ 120) (hn : n < 18446744073709551616) : BOk (layB kind d n) := ⟨(layB_ok kind d n h).1, fun s hs => ⟨(layB_ok kind d n h).2 s hs, by
  simp only [layB, secsOf, List.mem_cons, List.not_mem_nil, or_false] at hs
  rcases hs with rfl | rfl | rfl | rfl <;> exact hn⟩⟩
/-- a world in which but one old block may be another -/
theorem grown_trans {w1 w2 w3 : World} {g : Nat} (h1 : w1.grownBy w2 (some g)) (h2 : w2.grownBy w3 (some g)) : w1.grownBy w3 (some g) :=
  ⟨h2.os.trans h1.os, h2.tape.trans h1.tape, h2.output.trans h1.output, Nat.le_trans h1.size h2.size, fun k hk hne => (h2.block k (Nat.lt_of_lt_of_le hk h1.size) hne).trans (h1.block k hk hne)⟩
theorem below_grown {w1 w2 : World} (h : Below w1.heap.size w1 w2) (g : Option Nat) : w1.grownBy w2 g := ⟨h.os, h.tape, h.output, h.size, fun k hk _ => h.block k hk⟩
theorem grown_base {w0 w1 w2 : World} {g : Nat} (h0 : Below w0.heap.size w0 w1) (h : w1.grownBy w2 (some g)) (hg : w0.heap.size ≤ g) : Below w0.heap.size w0 w2 := h0.trans (grown_below h h0.size (fun j e => by cases e; exact hg))
/-- a file that is laid, with its device -/
def LaidR (w : World) (kl : Nat) (d : Dev) (ax : Option Addr) (na ac : Nat) (kind : Int) : Prop := ∃ (px cx : Option Addr) (pc cc : Nat), Blk w kl 92 (LaidV px cx ax d.pages.length pc d.cache.length cc na ac d.fuse d.off kind) ∧ Pgs w (.slice px d.pages.length pc) d.pages ∧ Wrs w (.slice cx d.cache.length cc) d.cache
theorem u64_small {k : Int} (h0 : 0 ≤ k) (h1 : k < 18446744073709551616) : IntKind.u64.wrap k = k := by
  rw [u64_wrap, Int.emod_eq_of_lt h0 h1]
theorem build_page (k : Int) (b o n m : Nat) (w : World) : (Instr.build 101 #[(0, .int .i64 k), (1, .slice (some ⟨b, o, none⟩) n m)]).run Try.prog w = .ok (.agg #[.int .i64 k, .slice (some ⟨b, o, none⟩) n m]) w := by simp [go_sem]
end Go.Proofs.Ytgfmpkcgkjpgnaa
end
