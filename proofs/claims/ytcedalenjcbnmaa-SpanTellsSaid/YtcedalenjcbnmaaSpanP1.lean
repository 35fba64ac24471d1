/-
  LAYER 4's STATEMENTS, the plain law: the least, the greatest and the hull of spans. No program.
-/
import Derived.Test.YtcedalenjcbnmaaSpan9
namespace Go.Proofs.Ytcedalenjcbnmaa
theorem fmin_spec : ∀ (r : List Int) (a : Int), (∀ x ∈ r, r.foldl min a ≤ x) ∧ r.foldl min a ≤ a ∧ (r.foldl min a = a ∨ r.foldl min a ∈ r)
  | [], a => ⟨fun x h => (by cases h), Int.le_refl _, .inl rfl⟩
  | b :: r, a => by
    have ih := fmin_spec r (min a b)
    simp only [List.foldl_cons, List.mem_cons]
    generalize r.foldl min (min a b) = m at *
    refine ⟨?_, by omega, ?_⟩
    · rintro x (rfl | hx)
      · omega
      · exact ih.1 x hx
    · rcases ih.2.2 with h | h
      · rcases Int.le_total a b with h' | h'
        · left; omega
        · right; left; omega
      · exact .inr (.inr h)
theorem fmax_spec : ∀ (r : List Int) (a : Int), (∀ x ∈ r, x ≤ r.foldl max a) ∧ a ≤ r.foldl max a ∧ (r.foldl max a = a ∨ r.foldl max a ∈ r)
  | [], a => ⟨fun x h => (by cases h), Int.le_refl _, .inl rfl⟩
  | b :: r, a => by
    have ih := fmax_spec r (max a b)
    simp only [List.foldl_cons, List.mem_cons]
    generalize r.foldl max (max a b) = m at *
    refine ⟨?_, by omega, ?_⟩
    · rintro x (rfl | hx)
      · omega
      · exact ih.1 x hx
    · rcases ih.2.2 with h | h
      · rcases Int.le_total a b with h' | h'
        · right; left; omega
        · left; omega
      · exact .inr (.inr h)
theorem foldl_take_succ {α β : Type} (f : β → α → β) (a : β) (l : List α) (k : Nat) (h : k < l.length) : (l.take (k + 1)).foldl f a = f ((l.take k).foldl f a) l[k] := by
  rw [List.take_succ_eq_append_getElem h, List.foldl_append]; rfl
/-- the least and the greatest of what the members of a list have -/
def mn {α : Type} (f : α → Int) : List α → Int
  | [] => 0
  | g :: r => (r.map f).foldl min (f g)
def mx {α : Type} (f : α → Int) : List α → Int
  | [] => 0
  | g :: r => (r.map f).foldl max (f g)
theorem mn_spec {α : Type} (f : α → Int) (l : List α) (h : 0 < l.length) : (∀ g ∈ l, mn f l ≤ f g) ∧ ∃ g ∈ l, mn f l = f g := by
  cases l with
  | nil => simp at h
  | cons g r =>
    have hs := fmin_spec (r.map f) (f g)
    simp only [mn]
    refine ⟨fun x hx => ?_, ?_⟩
    · rcases List.mem_cons.1 hx with rfl | hx
      · exact hs.2.1
      · exact hs.1 _ (List.mem_map_of_mem hx)
    · rcases hs.2.2 with h | h
      · exact ⟨g, List.mem_cons_self, h⟩
      · obtain ⟨y, hy, e⟩ := List.mem_map.1 h
        exact ⟨y, List.mem_cons_of_mem _ hy, e.symm⟩
theorem mx_spec {α : Type} (f : α → Int) (l : List α) (h : 0 < l.length) : (∀ g ∈ l, f g ≤ mx f l) ∧ ∃ g ∈ l, mx f l = f g := by
  cases l with
  | nil => simp at h
  | cons g r =>
    have hs := fmax_spec (r.map f) (f g)
    simp only [mx]
    refine ⟨fun x hx => ?_, ?_⟩
    · rcases List.mem_cons.1 hx with rfl | hx
      · exact hs.2.1
      · exact hs.1 _ (List.mem_map_of_mem hx)
    · rcases hs.2.2 with h | h
      · exact ⟨g, List.mem_cons_self, h⟩
      · obtain ⟨y, hy, e⟩ := List.mem_map.1 h
        exact ⟨y, List.mem_cons_of_mem _ hy, e.symm⟩
theorem foldF_leastF (l : List Sp) : foldF leastF l = (mn (·.1) l, mn (·.2) l) := by
  cases l with
  | nil => rfl
  | cons s r =>
    simp only [foldF, mn, mn]
    induction r generalizing s with
    | nil => rfl
    | cons t r ih => exact ih (leastF s t)
theorem foldF_mostF (l : List Sp) : foldF mostF l = (mx (·.1) l, mx (·.2) l) := by
  cases l with
  | nil => rfl
  | cons s r =>
    simp only [foldF, mx, mx]
    induction r generalizing s with
    | nil => rfl
    | cons t r ih => exact ih (mostF s t)
theorem foldF_joinF (l : List Sp) : foldF joinF l = (mn (·.1) l, mx (·.2) l) := by
  cases l with
  | nil => rfl
  | cons s r =>
    simp only [foldF, mn, mx]
    induction r generalizing s with
    | nil => rfl
    | cons t r ih => exact ih (joinF s t)
theorem foldF_meetF (l : List Sp) : foldF meetF l = (mx (·.1) l, mn (·.2) l) := by
  cases l with
  | nil => rfl
  | cons s r =>
    simp only [foldF, mx, mn]
    induction r generalizing s with
    | nil => rfl
    | cons t r ih => exact ih (meetF s t)
def lstV (V : List Int) (k : Nat) : Int := (V.take k).foldl min (V.headD 0)
def mstV (V : List Int) (k : Nat) : Int := (V.take k).foldl max (V.headD 0)
def widV (L : List Sp) (k : Nat) : Int := ((L.take k).map widthI).foldl max 0
theorem lstV_succ (V : List Int) (k : Nat) (h : k < V.length) : lstV V (k + 1) = min (lstV V k) V[k] := foldl_take_succ _ _ _ _ h
theorem mstV_succ (V : List Int) (k : Nat) (h : k < V.length) : mstV V (k + 1) = max (mstV V k) V[k] := foldl_take_succ _ _ _ _ h
theorem widV_succ (L : List Sp) (k : Nat) (h : k < L.length) : widV L (k + 1) = max (widV L k) (widthI L[k]) := by
  unfold widV
  rw [List.take_succ_eq_append_getElem h, List.map_append, List.foldl_append]; rfl
/-- what the statement asks of spans and of what lies in them -/
structure HoldsP (L : List Sp) (V : List Int) (A M J : Sp) : Prop where
  least : tog leastF L = (A, 0)
  most : tog mostF L = (M, 0)
  join : tog joinF L = (J, 0)
  a : hasB A (lstV V L.length) = true
  m : hasB M (mstV V L.length) = true
  own : ∀ k (h : k < L.length) (h' : k < V.length), hasB L[k] V[k] = true
  all : ∀ k (_ : k < L.length) (h' : k < V.length), hasB J V[k] = true
  inn : ∀ k (h : k < L.length), withinB L[k] J = true
  wa : widthI A ≤ widV L L.length
  wm : widthI M ≤ widV L L.length
  ia : withinB A J = true
  im : withinB M J = true
theorem holds_plain (G : List Gs) (h0 : 0 < G.length) (hG : ∀ g ∈ G, g.1.1 ≤ liesI g ∧ liesI g ≤ g.1.2) :
    ∃ A M J, HoldsP (G.map (·.1)) (G.map liesI) A M J ∧ (∃ g ∈ G, A.1 = g.1.1) ∧ (∃ g ∈ G, A.2 = g.1.2) ∧ (∃ g ∈ G, M.1 = g.1.1) ∧ (∃ g ∈ G, M.2 = g.1.2) ∧ (∃ g ∈ G, J.1 = g.1.1) ∧ (∃ g ∈ G, J.2 = g.1.2) := by
  have hl0 : 0 < (G.map (·.1)).length := by simpa using h0
  have e1 : ∀ (f : Sp → Int), mn f (G.map (·.1)) = mn (fun g : Gs => f g.1) G := fun f => by cases G with | nil => rfl | cons a r => simp [mn]; rfl
  have e2 : ∀ (f : Sp → Int), mx f (G.map (·.1)) = mx (fun g : Gs => f g.1) G := fun f => by cases G with | nil => rfl | cons a r => simp [mx]; rfl
  obtain ⟨a1, ga, hga, a1e⟩ := mn_spec (fun g : Gs => g.1.1) G h0
  obtain ⟨a2, gb, hgb, a2e⟩ := mn_spec (fun g : Gs => g.1.2) G h0
  obtain ⟨m1, gc, hgc, m1e⟩ := mx_spec (fun g : Gs => g.1.1) G h0
  obtain ⟨m2, gd, hgd, m2e⟩ := mx_spec (fun g : Gs => g.1.2) G h0
  have hA := foldF_leastF (G.map (·.1))
  have hM := foldF_mostF (G.map (·.1))
  have hJ := foldF_joinF (G.map (·.1))
  simp only [e1, e2] at hA hM hJ
  generalize mn (fun g : Gs => g.1.1) G = x1 at *
  generalize mn (fun g : Gs => g.1.2) G = x2 at *
  generalize mx (fun g : Gs => g.1.1) G = y1 at *
  generalize mx (fun g : Gs => g.1.2) G = y2 at *
  have hok : okAll (G.map (·.1)) = true := by
    unfold okAll
    rw [List.all_eq_true]
    intro s hs
    obtain ⟨g, hg, rfl⟩ := List.mem_map.1 hs
    have := hG g hg
    simp; omega
  have hlen : ¬ (G.map (·.1)).length = 0 := by omega
  have q1 := hG ga hga
  have q2 := hG gb hgb
  have q3 := hG gc hgc
  have q4 := hG gd hgd
  have r1 := a1 gb hgb
  have r2 := a2 ga hga
  have r3 := m1 gd hgd
  have r4 := m2 gc hgc
  have r5 := a1 gd hgd
  have r6 := a1 gc hgc
  have r7 := m2 gb hgb
  have r8 := m2 ga hga
  have hlv : ∀ V : List Int, V = G.map liesI → (∃ g ∈ G, lstV V (G.map (·.1)).length = liesI g) ∧ (∀ g ∈ G, lstV V (G.map (·.1)).length ≤ liesI g) ∧ (∃ g ∈ G, mstV V (G.map (·.1)).length = liesI g) ∧ ∀ g ∈ G, liesI g ≤ mstV V (G.map (·.1)).length := by
    rintro V rfl
    have hh : (G.map liesI).headD 0 ∈ G.map liesI := by cases G with | nil => simp at h0 | cons a r => simp
    have et : (G.map liesI).take (G.map (·.1)).length = G.map liesI := List.take_of_length_le (by simp)
    unfold lstV mstV
    rw [et]
    have s1 := fmin_spec (G.map liesI) ((G.map liesI).headD 0)
    have s2 := fmax_spec (G.map liesI) ((G.map liesI).headD 0)
    generalize (G.map liesI).foldl min ((G.map liesI).headD 0) = p at *
    generalize (G.map liesI).foldl max ((G.map liesI).headD 0) = q at *
    generalize (G.map liesI).headD 0 = hd at *
    refine ⟨?_, fun g hg => s1.1 _ (List.mem_map_of_mem hg), ?_, fun g hg => s2.1 _ (List.mem_map_of_mem hg)⟩
    · have : p ∈ G.map liesI := by rcases s1.2.2 with h | h; · rw [h]; exact hh
                                   · exact h
      obtain ⟨g, hg, e⟩ := List.mem_map.1 this
      exact ⟨g, hg, e.symm⟩
    · have : q ∈ G.map liesI := by rcases s2.2.2 with h | h; · rw [h]; exact hh
                                   · exact h
      obtain ⟨g, hg, e⟩ := List.mem_map.1 this
      exact ⟨g, hg, e.symm⟩
  obtain ⟨⟨gp, hgp, pe⟩, pl, ⟨gq, hgq, qe⟩, ql⟩ := hlv _ rfl
  have hwid : ∀ g ∈ G, widthI g.1 ≤ widV (G.map (·.1)) (G.map (·.1)).length := by
    intro g hg
    unfold widV
    rw [List.take_length]
    exact (fmax_spec _ 0).1 _ (List.mem_map_of_mem (List.mem_map_of_mem hg))
  have hk : ∀ k (h : k < G.length), x1 ≤ G[k].1.1 ∧ G[k].1.2 ≤ y2 ∧ G[k].1.1 ≤ liesI G[k] ∧ liesI G[k] ≤ G[k].1.2 := fun k h =>
    ⟨a1 _ (List.getElem_mem h), m2 _ (List.getElem_mem h), (hG _ (List.getElem_mem h)).1, (hG _ (List.getElem_mem h)).2⟩
  refine ⟨(x1, x2), (y1, y2), (x1, y2), ⟨?_, ?_, ?_, ?_, ?_, ?_, ?_, ?_, ?_, ?_, ?_, ?_⟩, ⟨ga, hga, a1e⟩, ⟨gb, hgb, a2e⟩, ⟨gc, hgc, m1e⟩, ⟨gd, hgd, m2e⟩, ⟨ga, hga, a1e⟩, ⟨gd, hgd, m2e⟩⟩
  · rw [tog, if_pos hok, if_neg hlen, hA, if_pos (by simp only; omega)]
  · rw [tog, if_pos hok, if_neg hlen, hM, if_pos (by simp only; omega)]
  · rw [tog, if_pos hok, if_neg hlen, hJ, if_pos (by simp only; omega)]
  · have := hG gp hgp
    have := a1 gp hgp
    have := pl gb hgb
    simp only [hasB, Bool.and_eq_true, decide_eq_true_eq]; omega
  · have := hG gq hgq
    have := m2 gq hgq
    have := ql gc hgc
    simp only [hasB, Bool.and_eq_true, decide_eq_true_eq]; omega
  · intro k h h'
    have := hk k (by simpa using h)
    simp [hasB]; omega
  · intro k h h'
    have := hk k (by simpa using h)
    simp [hasB]; omega
  · intro k h
    have := hk k (by simpa using h)
    simp [withinB]; omega
  · have := hwid ga hga
    unfold widthI at this ⊢
    simp only at this ⊢
    split at this <;> split <;> omega
  · have := hwid gd hgd
    unfold widthI at this ⊢
    simp only at this ⊢
    split at this <;> split <;> omega
  · simp [withinB]; omega
  · simp [withinB]; omega
end Go.Proofs.Ytcedalenjcbnmaa
