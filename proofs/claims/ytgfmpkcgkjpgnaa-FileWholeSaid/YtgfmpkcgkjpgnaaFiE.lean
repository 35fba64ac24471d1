/-
  FILES THAT ARE GOT, in plain Lean.
-/
import Derived.Test.YtgfmpkcgkjpgnaaFiP
section
namespace Go.Proofs.Ytgfmpkcgkjpgnaa
open Go.ChangeShapes Go.WideShapes Go.ChangeAt Go.RowKit Agg Pg Dv Fi
/-- a file is got, page behind page: its bytes so far, its first stamp -/
noncomputable def getsP (d : Dev) (kind bytes : Int) : Nat → Nat → List UInt8 → List Int → List UInt8 × Int
  | _, _, out, [] => (out, 0)
  | i, first, out, a :: l =>
    if (readP d a).1 ≠ 0 then ([], (readP d a).1)
    else if (readR (readP d a).2).2.2 = 0 ∧ (readR (readP d a).2).1.1 = kind ∧ (readR (readP d a).2).2.1 = (if i = 0 then (readR (readP d a).2).2.1 else first) + i ∧ ((readR (readP d a).2).1.2.length : Int) = min (bytes - out.length) 120
    then getsP d kind bytes (i + 1) (if i = 0 then (readR (readP d a).2).2.1 else first) (out ++ (readR (readP d a).2).1.2) l
    else ([], 300)
theorem readR_cases (b : List Sec) (hb : BOk b) (k : Int) (d : List UInt8) (n : Nat) (er : Int) (h : readR b = ((k, d), n, er)) : (er = 0 ∧ pageP k d ∧ stampP n ∧ layB k d n = b) ∨ (er ≠ 0 ∧ k = 0 ∧ d = [] ∧ n = 0) := by
  unfold readR at h
  split at h
  · rename_i hs
    split at h
    · rename_i hh
      split at h
      · rename_i hf
        simp only [Prod.mk.injEq] at h
        obtain ⟨⟨rfl, rfl⟩, rfl, rfl⟩ := h
        simp only [stampB, Bool.and_eq_true, decide_eq_true_eq, List.all_eq_true, beq_iff_eq] at hs
        have hl := lay_again b hb.1 hb.len hs.2 hh hf
        exact .inl ⟨rfl, hl.1, hs.1, hl.2⟩
      · simp only [Prod.mk.injEq] at h
        obtain ⟨⟨rfl, rfl⟩, rfl, rfl⟩ := h
        exact .inr ⟨by decide, rfl, rfl, rfl⟩
    · simp only [Prod.mk.injEq] at h
      obtain ⟨⟨rfl, rfl⟩, rfl, rfl⟩ := h
      exact .inr ⟨by decide, rfl, rfl, rfl⟩
  · simp only [Prod.mk.injEq] at h
    obtain ⟨⟨rfl, rfl⟩, rfl, rfl⟩ := h
    exact .inr ⟨by decide, rfl, rfl, rfl⟩
/-- what is put: the error, the device -/
def fPut (d : Dev) (A : List Int) (kind : Int) (n : Nat) (B : List UInt8) : Int × Dev :=
  if rightD d = false then (260, dev0) else if d.off then (10, d)
  else if mayB A kind B.length d.pages.length = false then (2, dev0)
  else if ¬ stampP n then (2, dev0)
  else if 4611686018427387904 - n < A.length - 1 then (8, dev0) else putsP d (blksF kind n B 0 A)
/-- what is got: the bytes, the error -/
noncomputable def fGet (d : Dev) (A : List Int) (kind bytes : Int) : List UInt8 × Int :=
  if rightD d = false then ([], 260) else if d.off then ([], 10)
  else if mayB A kind bytes d.pages.length = false then ([], 2) else getsP d kind bytes 0 0 [] A
theorem readP_bok {d : Dev} (h : DGood d) (k : Int) : BOk (readP d k).2 := by
  rw [readP]
  split
  · exact zeroB_bok
  · split
    · exact zeroB_bok
    · split
      · exact zeroB_bok
      · exact saysP_bok h.pages h.cache k
end Go.Proofs.Ytgfmpkcgkjpgnaa
end
section
/-
  FILES: what is put is got, in plain Lean.
-/
namespace Go.Proofs.Ytgfmpkcgkjpgnaa
open Go.ChangeShapes Go.WideShapes Go.ChangeAt Go.RowKit Agg Pg Dv Fi

theorem okA_all (np : Nat) : ∀ (A pre : List Int), okA np pre A = true → (∀ a ∈ A, 18 ≤ a ∧ a < np ∧ hasB pre a = false) ∧ A.Nodup := by
  intro A
  induction A with
  | nil => intro pre _; exact ⟨by simp, List.nodup_nil⟩
  | cons a l ih =>
    intro pre h
    simp only [okA, markB, Bool.and_eq_true, decide_eq_true_eq, Bool.not_eq_true'] at h
    obtain ⟨⟨⟨h1, h2⟩, ⟨_, h3⟩⟩, h4⟩ := h
    obtain ⟨i1, i2⟩ := ih _ h4
    have hs : ∀ x ∈ l, hasB pre x = false ∧ a ≠ x := fun x hx => by
      have := (i1 x hx).2.2
      unfold hasB at this ⊢
      rw [List.any_append, Bool.or_eq_false_iff] at this
      refine ⟨this.1, fun e => ?_⟩
      have h5 := this.2
      simp [e] at h5
    refine ⟨fun x hx => ?_, ?_⟩
    · rcases List.mem_cons.1 hx with rfl | hx
      · exact ⟨h1, h2, h3⟩
      · exact ⟨(i1 x hx).1, (i1 x hx).2.1, (hs x hx).1⟩
    · rw [List.nodup_cons]
      exact ⟨fun hx => (hs a hx).2 rfl, i2⟩
theorem blksF_keys (kind : Int) (n : Nat) (B : List UInt8) : ∀ (A : List Int) (i : Nat), (blksF kind n B i A).map (·.1) = A := by
  intro A
  induction A with
  | nil => intro i; rfl
  | cons a l ih => intro i; rw [blksF, List.map_cons, ih]
theorem blksF_length (kind : Int) (n : Nat) (B : List UInt8) (A : List Int) (i : Nat) : (blksF kind n B i A).length = A.length := by
  have h := congrArg List.length (blksF_keys kind n B A i)
  rwa [List.length_map] at h
theorem blksF_key {kind : Int} {n : Nat} {B : List UInt8} {A : List Int} {i : Nat} {x : Int × List Sec} (h : x ∈ blksF kind n B i A) : x.1 ∈ A := by
  have h2 := List.mem_map_of_mem (f := fun x : Int × List Sec => x.1) h
  rwa [blksF_keys] at h2
theorem blksF_app (kind : Int) (n : Nat) (B : List UInt8) : ∀ (A A2 : List Int) (i : Nat), blksF kind n B i (A ++ A2) = blksF kind n B i A ++ blksF kind n B (i + A.length) A2 := by
  intro A
  induction A with
  | nil => intro A2 i; rfl
  | cons a l ih =>
    intro A2 i
    rw [List.cons_append, blksF, blksF, ih, List.length_cons, List.cons_append]
    congr 3
    omega
theorem blksF_split (kind : Int) (n : Nat) (B : List UInt8) (A : List Int) (i : Nat) (h : i < A.length) : blksF kind n B 0 A = blksF kind n B 0 (A.take i) ++ (A[i], layB kind (partB B i) (n + i)) :: blksF kind n B (i + 1) (A.drop (i + 1)) := by
  have e : A = A.take i ++ A[i] :: A.drop (i + 1) := by rw [List.getElem_cons_drop]; exact (List.take_append_drop i A).symm
  have hl : (A.take i).length = i := by rw [List.length_take]; omega
  conv => lhs; rw [e]
  rw [blksF_app, hl, blksF]
  simp
theorem nodup_off {A : List Int} (h : A.Nodup) (i : Nat) (hi : i < A.length) : (∀ a ∈ A.take i, a ≠ A[i]) ∧ (∀ a ∈ A.drop (i + 1), a ≠ A[i]) := by
  have e : A = A.take i ++ A[i] :: A.drop (i + 1) := by rw [List.getElem_cons_drop]; exact (List.take_append_drop i A).symm
  have h' : (A.take i ++ A[i] :: A.drop (i + 1)).Nodup := Eq.mp (congrArg List.Nodup e) h
  rw [List.nodup_append, List.nodup_cons] at h'
  obtain ⟨_, ⟨h2, _⟩, h3⟩ := h'
  exact ⟨fun a ha => h3 a ha _ (List.mem_cons_self ..), fun a ha e2 => h2 (e2 ▸ ha)⟩
/-- what the pages of a file say that was put, and all others -/
theorem says_blk {P : List (List Sec)} {c : List (Int × List Sec)} (kind : Int) (n : Nat) (B : List UInt8) {A : List Int} (h : A.Nodup) (i : Nat) (hi : i < A.length) : saysP P (c ++ blksF kind n B 0 A) A[i] = layB kind (partB B i) (n + i) := by
  rw [blksF_split kind n B A i hi]
  exact says_at (fun x hx => (nodup_off h i hi).2 x.1 (blksF_key hx))
theorem says_other {P : List (List Sec)} {c : List (Int × List Sec)} (kind : Int) (n : Nat) (B : List UInt8) {A : List Int} {p : Int} (h : p ∉ A) : saysP P (c ++ blksF kind n B 0 A) p = saysP P c p :=
  says_no (fun x hx e => h (by rw [← e]; exact blksF_key hx))
theorem gets_same {d d' : Dev} {kind bytes : Int} : ∀ (A : List Int) (i f : Nat) (out : List UInt8), (∀ a ∈ A, readP d a = readP d' a) → getsP d kind bytes i f out A = getsP d' kind bytes i f out A := by
  intro A
  induction A with
  | nil => intro i f out _; rfl
  | cons a l ih =>
    intro i f out h
    have e := fun i f out => ih i f out (fun x hx => h x (by simp [hx]))
    rw [getsP, getsP, h a (by simp)]
    simp only [e]
theorem need_step {A : List Int} {B : List UInt8} (h : (A.length : Int) = needN B.length) : B.length ≤ 120 * A.length ∧ ∀ k, k < A.length → 120 * k < B.length := by
  unfold needN at h
  split at h
  · exact ⟨by omega, fun k hk => by omega⟩
  · exact ⟨by omega, fun k hk => by omega⟩
theorem part_next (B : List UInt8) (k : Nat) : B.take (120 * k) ++ partB B k = B.take (120 * (k + 1)) := by
  unfold partB
  rw [show k * 120 = 120 * k by omega, show 120 * (k + 1) = 120 * k + 120 by omega, List.take_add]
theorem part_length (B : List UInt8) (k : Nat) (h : 120 * k < B.length) : ((partB B k).length : Int) = min ((B.length : Int) - ((B.take (120 * k)).length : Int)) 120 := by
  unfold partB
  rw [List.length_take, List.length_drop, List.length_take]; omega
/-- a file's blocks are got -/
theorem gets_ok {d : Dev} {kind : Int} {n : Nat} {B : List UInt8} {A : List Int} (hk : kind = 3 ∨ kind = 4) (hn1 : 1 ≤ n) (hn2 : n + A.length ≤ 4611686018427387905) (hl : (A.length : Int) = needN B.length) (hr : ∀ i (h : i < A.length), readP d A[i] = (0, layB kind (partB B i) (n + i))) : ∀ j k, k + j = A.length → ∀ f, (k ≠ 0 → f = n) → getsP d kind B.length k f (B.take (120 * k)) (A.drop k) = (B, 0) := by
  obtain ⟨l1, l2⟩ := need_step hl
  intro j
  induction j with
  | zero =>
    intro k hkj f _
    obtain rfl : k = A.length := by omega
    rw [List.drop_length, getsP, List.take_of_length_le (by omega)]
  | succ j ih =>
    intro k hkj f hf
    have hlt : k < A.length := by omega
    have hp : pageP kind (partB B k) := ⟨by omega, by omega, partB_len B k⟩
    have hs : stampP (n + k) := ⟨by omega, by omega⟩
    rw [List.drop_eq_getElem_cons hlt, getsP, hr k hlt, if_neg (by simp)]
    simp only [read_lay kind (partB B k) (n + k) hp hs]
    by_cases h0 : k = 0
    · subst h0
      simp only [if_true, Nat.add_zero, true_and]
      rw [if_pos (part_length B 0 (l2 0 hlt)), part_next]
      exact ih 1 (by omega) n (fun _ => rfl)
    · obtain rfl : f = n := hf h0
      simp only [if_neg h0, true_and]
      rw [if_pos (part_length B k (l2 k hlt)), part_next]
      exact ih (k + 1) (by omega) f (fun _ => rfl)
theorem gets_all {d : Dev} {kind : Int} {n : Nat} {B : List UInt8} {A : List Int} (hk : kind = 3 ∨ kind = 4) (hn1 : 1 ≤ n) (hn2 : n + A.length ≤ 4611686018427387905) (hl : (A.length : Int) = needN B.length) (hr : ∀ i (h : i < A.length), readP d A[i] = (0, layB kind (partB B i) (n + i))) : getsP d kind B.length 0 0 [] A = (B, 0) := by
  have h := gets_ok hk hn1 hn2 hl hr A.length 0 (by omega) 0 (fun h => absurd rfl h)
  simpa using h
theorem gets_eq {d : Dev} {kind bytes a : Int} {l : List Int} {k f : Nat} {out : List UInt8} (h : (readP d a).1 = 0) (f2 : Nat) (hf : (if k = 0 then (readR (readP d a).2).2.1 else f) = f2) :
    getsP d kind bytes k f out (a :: l) = if (readR (readP d a).2).2.2 = 0 ∧ (readR (readP d a).2).1.1 = kind ∧ (readR (readP d a).2).2.1 = f2 + k ∧ ((readR (readP d a).2).1.2.length : Int) = min (bytes - out.length) 120 then getsP d kind bytes (k + 1) f2 (out ++ (readR (readP d a).2).1.2) l else ([], 300) := by
  rw [getsP, if_neg (by rw [h]; decide), hf]
/-- one page more -/
theorem gets_step {d : Dev} {kind bytes a : Int} {l : List Int} {k f : Nat} {out : List UInt8} (h : (readP d a).1 = 0) :
    (∃ f2, f2 = (if k = 0 then (readR (readP d a).2).2.1 else f) ∧ (readR (readP d a).2).2.2 = 0 ∧ (readR (readP d a).2).1.1 = kind ∧ (readR (readP d a).2).2.1 = f2 + k ∧ ((readR (readP d a).2).1.2.length : Int) = min (bytes - out.length) 120 ∧ getsP d kind bytes k f out (a :: l) = getsP d kind bytes (k + 1) f2 (out ++ (readR (readP d a).2).1.2) l)
    ∨ getsP d kind bytes k f out (a :: l) = ([], 300) := by
  obtain ⟨f2, hf2⟩ : ∃ f2, (if k = 0 then (readR (readP d a).2).2.1 else f) = f2 := ⟨_, rfl⟩
  have e := gets_eq (kind := kind) (bytes := bytes) (l := l) (out := out) h f2 hf2
  by_cases hc : (readR (readP d a).2).2.2 = 0 ∧ (readR (readP d a).2).1.1 = kind ∧ (readR (readP d a).2).2.1 = f2 + k ∧ ((readR (readP d a).2).1.2.length : Int) = min (bytes - out.length) 120
  · rw [if_pos hc] at e
    exact .inl ⟨f2, hf2.symm, hc.1, hc.2.1, hc.2.2.1, hc.2.2.2, e⟩
  · rw [if_neg hc] at e
    exact .inr e
/-- what is got has stamps one behind the other -/
theorem gets_inv {d : Dev} {kind bytes : Int} : ∀ (A : List Int) (k f : Nat) (out : List UInt8), (∀ a ∈ A, (readP d a).1 = 0) → k ≠ 0 → (getsP d kind bytes k f out A).2 = 0 → ∀ i (h : i < A.length), (readR (readP d A[i]).2).2.2 = 0 ∧ (readR (readP d A[i]).2).1.1 = kind ∧ (readR (readP d A[i]).2).2.1 = f + (k + i) := by
  intro A
  induction A with
  | nil => intro k f out _ _ _ i h; simp at h
  | cons a l ih =>
    intro k f out hA hk hz i h
    rcases gets_step (kind := kind) (bytes := bytes) (l := l) (k := k) (f := f) (out := out) (hA a (by simp)) with ⟨f2, e1, e2, e3, e4, e5, e6⟩ | e
    · rw [if_neg hk] at e1
      subst e1
      rw [e6] at hz
      cases i with
      | zero => exact ⟨e2, e3, e4⟩
      | succ i =>
        have h2 := ih (k + 1) f2 _ (fun x hx => hA x (by simp [hx])) (by omega) hz i (by simpa using h)
        refine ⟨h2.1, h2.2.1, ?_⟩
        rw [List.getElem_cons_succ, h2.2.2]; omega
    · rw [e] at hz; exact absurd hz (by decide)
theorem gets_inv0 {d : Dev} {kind bytes : Int} {A : List Int} (hA : ∀ a ∈ A, (readP d a).1 = 0) (h0 : 0 < A.length) (hz : (getsP d kind bytes 0 0 [] A).2 = 0) : ∀ i (h : i < A.length), (readR (readP d A[i]).2).2.2 = 0 ∧ (readR (readP d A[i]).2).1.1 = kind ∧ (readR (readP d A[i]).2).2.1 = (readR (readP d A[0]).2).2.1 + i := by
  cases A with
  | nil => simp at h0
  | cons a l =>
    rcases gets_step (kind := kind) (bytes := bytes) (l := l) (k := 0) (f := 0) (out := []) (hA a (by simp)) with ⟨f2, e1, e2, e3, e4, e5, e6⟩ | e
    · rw [if_pos rfl] at e1
      subst e1
      rw [e6] at hz
      intro i h
      cases i with
      | zero => exact ⟨e2, e3, rfl⟩
      | succ i =>
        have h2 := gets_inv l (0 + 1) _ _ (fun x hx => hA x (by simp [hx])) (by decide) hz i (by simpa using h)
        refine ⟨h2.1, h2.2.1, ?_⟩
        rw [List.getElem_cons_succ, h2.2.2, List.getElem_cons_zero]; omega
    · rw [e] at hz; exact absurd hz (by decide)
/-- if all pages are read, a file is got or it is none -/
theorem gets_two {d : Dev} {kind bytes : Int} : ∀ (A : List Int) (k f : Nat) (out : List UInt8), (∀ a ∈ A, (readP d a).1 = 0) → (getsP d kind bytes k f out A).2 = 0 ∨ getsP d kind bytes k f out A = ([], 300) := by
  intro A
  induction A with
  | nil => intro k f out _; exact .inl rfl
  | cons a l ih =>
    intro k f out h
    rcases gets_step (kind := kind) (bytes := bytes) (l := l) (k := k) (f := f) (out := out) (h a (by simp)) with ⟨f2, e1, e2, e3, e4, e5, e6⟩ | e
    · rw [e6]; exact ih _ _ _ (fun x hx => h x (by simp [hx]))
    · exact .inr e
/-- the bytes that are got: as many as asked -/
theorem gets_len {d : Dev} {kind bytes : Int} (hb : 0 ≤ bytes) : ∀ (A : List Int) (k f : Nat) (out : List UInt8), (∀ a ∈ A, (readP d a).1 = 0) → (getsP d kind bytes k f out A).2 = 0 → (out.length : Int) = min bytes (120 * k) → ((getsP d kind bytes k f out A).1.length : Int) = min bytes (120 * (k + A.length)) := by
  intro A
  induction A with
  | nil => intro k f out _ _ h; rw [getsP]; simpa using h
  | cons a l ih =>
    intro k f out hA hz h
    rcases gets_step (kind := kind) (bytes := bytes) (l := l) (k := k) (f := f) (out := out) (hA a (by simp)) with ⟨f2, e1, e2, e3, e4, e5, e6⟩ | e
    · rw [e6] at hz ⊢
      have h2 := ih _ _ _ (fun x hx => hA x (by simp [hx])) hz (by rw [List.length_append]; omega)
      rw [h2, List.length_cons]; omega
    · rw [e] at hz; exact absurd hz (by decide)
end Go.Proofs.Ytgfmpkcgkjpgnaa
end
section
/-
  FILES: the writes of a file that is laid.
-/
namespace Go.Proofs.Ytgfmpkcgkjpgnaa
open Go.ChangeShapes Go.WideShapes Go.ChangeAt Go.RowKit Agg Pg Dv Fi
attribute [local go_sem] Oper.semAt_some

theorem putP_len (d : Dev) (k : Int) (b : List Sec) : (putP d k b).2.cache.length ≤ d.cache.length + 1 := by
  unfold putP
  split
  · exact Nat.le_succ _
  · split
    · exact Nat.le_succ _
    · simp
theorem laid_spl {px cx px' cx' ax : Option Addr} {np pc nc cc np' pc' nc' cc' na ac : Nat} {z z' : Int} {q q' : Bool} {kind : Int} : spliced (LaidV px cx ax np pc nc cc na ac z q kind) 0 [.slice px' np' pc', .slice cx' nc' cc', .int .i64 z', .bool q'] = LaidV px' cx' ax np' pc' nc' cc' na ac z' q' kind := by simp [spliced]
set_option maxHeartbeats 4000000 in
set_option maxRecDepth 100000 in
theorem puts_any (d : Dev) (A : List Int) (B : List UInt8) (kind : Int) (n : Nat) (ax : Option Addr) (ac b o cap kl : Nat) (w0 w : World) (hd : DGood d) (hc : d.cache.length ≤ 10000) (hk : LaidR w kl d ax A.length ac kind) (hA : Ints w0 (.slice ax A.length ac) A) (hB : Bytes w0 (.slice (some ⟨b, o, none⟩) B.length cap) B)
    (h0 : Below w0.heap.size w0 w) (hkl : w0.heap.size ≤ kl) (hkind : kind = 3 ∨ kind = 4) (hn : 1 ≤ n) (hn2 : n + A.length ≤ 4611686018427387905) (hal : A.length ≤ 1000) (hbl : B.length ≤ 1000000) (hne : (A.length : Int) = needN B.length) :
    Calls Try.prog 44 #[.pointer (some ⟨kl, 0, none⟩), .int .u64 (n : Int), .slice (some ⟨b, o, none⟩) B.length cap] w fun e w' => e = .returned (.int .i64 (putsP d (blksF kind n B 0 A)).1) ∧ LaidR w' kl (putsP d (blksF kind n B 0 A)).2 ax A.length ac kind ∧ w.grownBy w' (some kl) := by
  obtain ⟨R, hR⟩ : ∃ R, putsP d (blksF kind n B 0 A) = R := ⟨_, rfl⟩
  have HR0 := Lib.hid hR
  rw [hR]
  have HA0 := Lib.hid hA
  have HB0 := Lib.hid hB
  have HW0 := Lib.hid h0
  have HD0 := Lib.hid hd
  have hlen : ∀ k, k < A.length → k * 120 < B.length := by
    intro k hk
    unfold needN at hne
    split at hne <;> omega
  have HLEN := Lib.hid hlen
  have HP1 : Hid (∀ i, pageP kind (partB B i)) := Lib.hid fun i => ⟨by omega, by omega, partB_len B i⟩
  obtain ⟨px0, cx0, pc0, cc0, hk1, hk2, hk3⟩ := hk
  have HK1 := Lib.hid hk1
  have HP2 := Lib.hid hk2
  have HC2 := Lib.hid hk3
  have hkll := hk1.lt
  clear hR hA hB h0 hd hlen hkind hk1 hk2 hk3 hne
  have HB := Lib.hid (Below.refl w.heap.size w)
  go_enter Try.func44, Try.ntmps44
  have x4 := HK1.out.cell 4
  simp only [List.getElem?_cons_succ, List.getElem?_cons_zero] at x4
  go_wp2_with fail
  clear x4
  have hd := HD0.out
  go_loopw [16] (fun ix wr => ∃ (k : Nat) (dk : Dev), k ≤ A.length ∧ ix = .int .i64 k ∧ DGood dk ∧ dk.cache.length ≤ 10000 + k ∧ putsP dk (blksF kind n B k (A.drop k)) = R ∧ LaidR wr kl dk ax A.length ac kind ∧ w.grownBy wr (some kl)) (fun ix _ => A.length - (intOf ix).toNat)
  case atStart => exact ⟨0, d, by omega, rfl, hd, by omega, HR0.out, ⟨px0, cx0, pc0, cc0, HK1.out, HP2.out, HC2.out⟩, World.grownBy.refl _ _⟩
  case round =>
    clear hd
    obtain ⟨k, dk, hk, rfl, hdk, hck, hrk, hlk, hgw⟩ := hrel
    have HDK := Lib.hid hdk
    have HRK := Lib.hid hrk
    have HLK := Lib.hid hlk
    have HGW := Lib.hid hgw
    have HWR := Lib.hid (grown_base HW0.out hgw hkl)
    clear hdk hrk hlk hgw
    obtain ⟨wA, hwA⟩ : ∃ x, x = wr := ⟨_, rfl⟩
    subst hwA
    by_cases hlt : k < A.length
    · have HA := Lib.hid (SlR.keep HA0.out HWR.out)
      have HBB := Lib.hid (SlR.keep HB0.out HWR.out)
      obtain ⟨ab, aof, ac', hve, _, _, _, _⟩ := SlR.pos HA.out (by decide) (by omega)
      simp only [Value.slice.injEq, true_and] at hve
      obtain ⟨rfl, rfl⟩ := hve
      have hcell := ints_at HA.out hlt
      have hst := blksF_drop kind n B A k hlt
      obtain ⟨a, ha⟩ : ∃ y, A[k] = y := ⟨_, rfl⟩
      rw [ha] at hcell hst
      have hrk := HRK.out
      rw [hst, putsP] at hrk
      have hbok := lay_bok kind (partB B k) (n + k) (partB_len B k) (by omega)
      obtain ⟨bl, hbl2⟩ : ∃ y, layB kind (partB B k) (n + k) = y := ⟨_, rfl⟩
      rw [hbl2] at hrk hbok
      have HBL := Lib.hid hbl2
      have HBO := Lib.hid hbok
      have HB120 := Lib.hid (HLEN.out k hlt)
      obtain ⟨px, cx, pc, cc, hk1, hk2, hk3⟩ := HLK.out
      obtain ⟨g, hg⟩ : ∃ g, goesP dk (putP dk a bl) = g := ⟨_, rfl⟩
      have hgg : DGood g.2 := by rw [← hg]; exact goesP_good HDK.out (putP_good HDK.out a hbok)
      have hgc : g.2.cache.length ≤ 10000 + (k + 1) := by
        rw [← hg]
        exact goesP_len (by omega) (Nat.le_trans (putP_len dk a bl) (by omega))
      rw [hg] at hrk
      have HG := Lib.hid hg
      have HGG := Lib.hid hgg
      have HRX := Lib.hid hrk
      have HK := Lib.hid hk1
      have HPG := Lib.hid hk2
      have HWG := Lib.hid hk3
      clear ha hst hrk hbok hbl2 hk1 hk2 hk3 hg hgg HRK HLK HLEN
      have HB := Lib.hid (Below.refl wA.heap.size wA)
      have hwk : kl < wA.heap.size := HK.out.lt
      have HWK : Hid (IntKind.u64.wrap (k : Int) = (k : Int)) := Lib.hid (u64_small (by omega) (by omega))
      have HWA : Hid (some (IntKind.u64.wrap ((n : Int) + (k : Int))) = some ((n + k : Nat) : Int)) := Lib.hid (by rw [u64_small (by omega) (by omega)]; congr 1)
      go_upto_region 4 with (fail)
      clear hcell
      refine Agg.chainR 17 (by kernel_rfl) (by kernel_rfl) ?_
      simp only [List.take_succ_cons, List.take_zero, List.drop_succ_cons, List.drop_zero]
      refine Agg.chMove rfl rfl rfl rfl ?_
      refine Agg.chNil rfl rfl rfl rfl ?_
      refine Agg.chFA fo_FLaid_2 rfl rfl rfl rfl ?_
      refine Agg.chLoadB HK.out (by decide +kernel) rfl rfl (by rfl) rfl rfl ?_
      refine Agg.chMove rfl rfl rfl rfl ?_
      refine Agg.chMove rfl rfl rfl rfl ?_
      refine Agg.chCall Try.func68 rfl (by kernel_rfl) rfl rfl rfl rfl (fun W hb => part_any B b o cap k W (HBB.out.keep hb) HB120.out hbl) ?_
      refine Agg.chBuild (v := .agg #[.int .i64 kind, partV b o B k]) rfl rfl rfl rfl (fun W => build_page _ _ _ _ _ W) ?_
      refine Agg.chMove rfl rfl rfl rfl ?_
      refine Agg.chMove rfl rfl rfl rfl ?_
      refine Agg.chInt (k : Int) HWK.out (by kernel_rfl) Try.underlying42 rfl rfl rfl rfl ?_
      refine Agg.chAr (r := ((n + k : Nat) : Int)) rfl rfl rfl HWA.out rfl rfl ?_
      refine Agg.chCall Try.func67 rfl (by kernel_rfl) (v := .tuple #[.agg (blkC bl).toArray, .int .i64 0]) rfl rfl rfl rfl (fun W hb => by have h := layOk_any kind (partB B k) (n + k) (partV b o B k) W (partV_bytes (HBB.out.keep hb) k) (HP1.out k) ⟨by omega, by omega⟩; rw [HBL.out] at h; exact h) ?_
      refine Agg.chMove rfl rfl rfl rfl ?_
      refine Agg.chExtract rfl rfl rfl rfl rfl ?_
      refine Agg.chExtract rfl rfl rfl rfl rfl ?_
      refine Agg.chAlloc (blkC zeroB).toArray rfl (by kernel_rfl) rfl rfl ?_
      refine Agg.chEnd ?_
      intro vs w21 hb hf
      simp only [List.reverse, List.reverseAux, Agg.Facts] at hf
      obtain ⟨⟨gx, hv, hs, hkb⟩, _⟩ := hf
      simp only [List.reverse, List.reverseAux, Agg.fill, List.set_cons_succ, List.set_cons_zero, hv]
      have h132 := bok_cells HBO.out
      refine Agg.tStore 132 (cs := blkC bl) hkb rfl rfl rfl rfl rfl (by decide +kernel) zero132 h132 (blkC_one _) (fun w30 hb30 hg30 => ?_)
      refine Agg.tAssign rfl rfl rfl ?_
      simp only [Agg.ev, List.getD_cons_zero, List.getD_cons_succ, List.set_cons_succ, List.set_cons_zero]
      refine Agg.wpNil ?_
      have hbX := bel_grown hb hg30 hs
      have HX := Lib.hid hb30
      replace HB := Lib.hid (HB.out.trans (hbX.mono HB.out.size))
      replace HK := Lib.hid (HK.out.keep hbX)
      replace HPG := Lib.hid (SlR.keep HPG.out hbX)
      replace HWG := Lib.hid (SlR.keep HWG.out hbX)
      clear HBB hb hs hkb hb30 hg30 hbX hv HWK HWA HA HP1 HB120
      have HDV : Hid (∀ W, Below w30.heap.size w30 W → DevR W (.agg #[.slice px dk.pages.length pc, .slice cx dk.cache.length cc, .int .i64 dk.fuse, .bool dk.off]) dk) := Lib.hid fun W hb => ⟨px, cx, pc, cc, rfl, SlR.keep HPG.out hb, SlR.keep HWG.out hb⟩
      have HC4 : Hid (∀ i v, [Value.slice px dk.pages.length pc, .slice cx dk.cache.length cc, .int .i64 dk.fuse, .bool dk.off][i]? = some v → w30.cell? ⟨kl, 0 + 0 + i, none⟩ = some v) := Lib.hid (fun i v hi => by
        have h : i < 4 := (List.getElem?_eq_some_iff.1 hi).1
        rw [HK.out.cell, show 0 + 0 + i = i by omega, ← hi]
        match i, h with
        | 0, _ => rfl
        | 1, _ => rfl
        | 2, _ => rfl
        | 3, _ => rfl)
      go_upto_region 7 with (fail)
      refine Agg.chainR 13 (by kernel_rfl) (by kernel_rfl) ?_
      simp only [List.take_succ_cons, List.take_zero, List.drop_succ_cons, List.drop_zero]
      refine Agg.chMove rfl rfl rfl rfl ?_
      refine Agg.chMove rfl rfl rfl rfl ?_
      refine Agg.chNil rfl rfl rfl rfl ?_
      refine Agg.chFA fo_FLaid_0 rfl rfl rfl rfl ?_
      refine Agg.chRowAt 4 [.slice px dk.pages.length pc, .slice cx dk.cache.length cc, .int .i64 dk.fuse, .bool dk.off] rfl (by decide +kernel) rfl rfl rfl rfl HC4.out ?_
      refine Agg.chMove rfl rfl rfl rfl ?_
      refine Agg.chRowB 132 HX.out h132 (by decide +kernel) rfl rfl rfl rfl ?_
      refine Agg.chCallG Try.func69 rfl (by kernel_rfl) (DevT w30.heap.size g.1 g.2) (DevT.stable _ _ _) rfl rfl rfl rfl (fun W hb => Calls.mono (put_R HDK.out (by omega) (HDV.out W hb) a HBO.out) (by rw [HG.out]; rintro e w2 ⟨v, rfl, h, h2⟩; exact ⟨_, rfl, ⟨v, rfl, h.base hb.size⟩, h2⟩)) ?_
      refine Agg.chMoveO 7 (DevT.stable _ _ _) rfl rfl rfl rfl rfl rfl ?_
      refine Agg.chExtractO 8 (DevV.stable _ _) DevT.fst rfl rfl rfl rfl rfl rfl ?_
      refine Agg.chExtractO 8 (IntV.stable _) DevT.snd rfl rfl rfl rfl rfl rfl ?_
      refine Agg.chNil rfl rfl rfl rfl ?_
      refine Agg.chFA fo_FLaid_0 rfl rfl rfl rfl ?_
      refine Agg.chEnd ?_
      intro vs w41 hb hf
      simp only [List.reverse, List.reverseAux, Agg.Facts] at hf
      obtain ⟨_, _, ⟨p9, c9, hv9, hp9, hc9⟩, hv10, _⟩ := hf
      simp only [List.reverse, List.reverseAux, Agg.fill, List.set_cons_succ, List.set_cons_zero, hv9, hv10]
      obtain ⟨px9, pc9, rfl, _, _⟩ := (ownSl hp9).shape
      obtain ⟨cx9, cc9, rfl, _, _⟩ := (ownSl hc9).shape
      have hkb := HK.out.keep hb
      have hsz30 : kl < w30.heap.size := HK.out.lt
      refine Agg.gStoreMid 4 0 [.slice px9 g.2.pages.length pc9, .slice cx9 g.2.cache.length cc9, .int .i64 g.2.fuse, .bool g.2.off] hkb rfl rfl rfl rfl rfl (by decide +kernel) rfl (by simp) (by simp [Value.oneCell']) (fun w50 hb50 hg50 => ?_)
      rw [laid_spl] at hb50
      refine Agg.tAssign rfl rfl rfl ?_
      simp only [Agg.ev, List.getD_cons_zero, List.getD_cons_succ, List.set_cons_succ, List.set_cons_zero]
      refine Agg.wpNil ?_
      have hgx := (grown_trans (below_grown HB.out (some kl)) (grown_trans (below_grown hb (some kl)) hg50))
      have hgw2 := grown_trans HGW.out hgx
      have hp9' := ownSl (hp9.kept hg50 (own_off hp9 hsz30))
      have hc9' := ownSl (hc9.kept hg50 (own_off hc9 hsz30))
      have hrx := HRX.out
      clear hb hkb hg50 HDV HC4 hv9 hv10 hp9 hc9
      by_cases hz : g.1 = 0
      · rw [hz] at hrx ⊢
        rw [if_neg (by simp)] at hrx
        go_wp2_with fail
        exact ⟨⟨k + 1, g.2, by omega, by go_num, HGG.out, hgc, hrx, ⟨_, _, _, _, hb50, hp9', hc9'⟩, hgw2⟩, by simp [intOf]; omega⟩
      · rw [if_pos hz] at hrx
        subst hrx
        go_wp2_with fail
        go_ret
        exact ⟨rfl, ⟨_, _, _, _, hb50, hp9', hc9'⟩, hgw2⟩
    · obtain rfl : k = A.length := by omega
      have hrk := HRK.out
      rw [List.drop_length, blksF, putsP] at hrk
      subst hrk
      go_wp2_with fail
      go_ret
      exact ⟨rfl, HLK.out, HGW.out⟩
end Go.Proofs.Ytgfmpkcgkjpgnaa
end
