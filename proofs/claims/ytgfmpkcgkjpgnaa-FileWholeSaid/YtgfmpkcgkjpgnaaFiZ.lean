/-
  FILES: a disk's device.
-/
import Derived.Test.YtgfmpkcgkjpgnaaFiY
namespace Fi
open Go Go.RowKit Agg Pg Dv
end Fi
namespace Go.Proofs.Ytgfmpkcgkjpgnaa
open Go.ChangeShapes Go.WideShapes Go.ChangeAt Go.RowKit Agg Pg Dv Fi
attribute [local go_sem] Oper.semAt_some

theorem fo_FDisk_0 : Agg.fieldOff Try.prog 38 0 = some 0 := by kernel_rfl
theorem fo_FDisk_1 : Agg.fieldOff Try.prog 38 1 = some 1 := by kernel_rfl
theorem fo_FDisk_2 : Agg.fieldOff Try.prog 38 2 = some 2 := by kernel_rfl
theorem fo_FDisk_3 : Agg.fieldOff Try.prog 38 3 = some 3 := by kernel_rfl
theorem fo_FDisk_4 : Agg.fieldOff Try.prog 38 4 = some 4 := by kernel_rfl
theorem fo_FDisk_5 : Agg.fieldOff Try.prog 38 5 = some 5 := by kernel_rfl
theorem pgC_one (p : PgD) : ∀ u ∈ pgC p, u.oneCell' = true := by
  intro u hu
  simp only [pgC, List.mem_cons, List.mem_map] at hu
  rcases hu with rfl | rfl | ⟨n, _, rfl⟩ <;> rfl
theorem build_wr0 (k : Int) (w : World) : (Instr.build 88 #[(0, .int .i64 k)]).run Try.prog w = .ok (.agg (wrC (k, zeroB)).toArray) w := by
  have e : (Instr.build 88 #[(0, .int .i64 k)]).run Try.prog w = .ok (.agg (.int .i64 k :: (wr0.drop 1)).toArray) w := by kernel_rfl
  rw [e]; rfl
def pg0 : List Value := [.int .i64 0, .int .u8 0, .int .u64 0, .int .u64 0, .int .u64 0, .int .u64 0]
def atO (f : FileV) : List Int := f.at_.take 20
def byO (f : FileV) : List UInt8 := f.bytes.take 2000
/-- a file is laid onto pages, from a stamp on -/
def layF (s : List (List Sec) × Nat) (f : FileV) : List (List Sec) × Nat :=
  if laidB (atO f) f.kind (byO f).length s.1.length = true then (setPgs s.1 (blksF f.kind s.2 (byO f) 0 (atO f)), s.2 + (atO f).length) else s
def filesTo (x : DiskD) (k : Nat) : List (List Sec) × Nat := ((x.files.take k).take 4).foldl layF (List.replicate (diN x) zeroB, 1)
theorem filesTo_succ (x : DiskD) (k : Nat) (h : k < x.files.length) : filesTo x (k + 1) = if k < 4 then layF (filesTo x k) x.files[k] else filesTo x k := by
  unfold filesTo
  by_cases hk : k < 4
  · rw [if_pos hk, List.take_of_length_le (by rw [List.length_take]; omega), List.take_of_length_le (l := x.files.take k) (by rw [List.length_take]; omega), List.take_succ_eq_append_getElem h, List.foldl_append]; rfl
  · rw [if_neg hk, List.take_take, List.take_take, Nat.min_eq_left (by omega), Nat.min_eq_left (by omega)]
theorem atO_len (f : FileV) : (atO f).length ≤ 20 := by unfold atO; rw [List.length_take]; omega
theorem byO_len (f : FileV) : (byO f).length ≤ 2000 := by unfold byO; rw [List.length_take]; omega
/-- how files leave pages -/
structure FilesOk (n : Nat) (k : Nat) (s : List (List Sec) × Nat) : Prop where
  len : s.1.length = n
  bok : ∀ b ∈ s.1, BOk b
  st1 : 1 ≤ s.2
  st2 : s.2 ≤ 1 + 20 * k
theorem layF_ok {n k : Nat} {s : List (List Sec) × Nat} (h : FilesOk n k s) (hk : k ≤ 4) (f : FileV) : FilesOk n (k + 1) (layF s f) := by
  unfold layF
  have h1 := h.st1
  have h2 := h.st2
  split
  · have := atO_len f
    exact ⟨by rw [setPgs_length]; exact h.len, setPgs_bok h.bok _ (blksF_bok _ _ _ _ 0 (by omega)), by show 1 ≤ s.2 + _; omega, by show s.2 + _ ≤ _; omega⟩
  · exact ⟨h.len, h.bok, h1, by omega⟩
theorem filesTo_ok (x : DiskD) (k : Nat) : FilesOk (diN x) 4 (filesTo x k) := by
  have key : ∀ (l : List FileV) (j : Nat) (s : List (List Sec) × Nat), j + l.length ≤ 4 → FilesOk (diN x) j s → FilesOk (diN x) 4 (l.foldl layF s) := by
    intro l
    induction l with
    | nil => intro j s hj h; exact ⟨h.len, h.bok, h.st1, by have := h.st2; simp at hj; show s.2 ≤ _; omega⟩
    | cons f l ih =>
      intro j s hj h
      rw [List.length_cons] at hj
      exact ih (j + 1) _ (by omega) (layF_ok h (by omega) f)
  exact key _ 0 _ (by rw [List.length_take]; omega) ⟨by simp, fun b hb => by rw [List.eq_of_mem_replicate hb]; exact zeroB_bok, Nat.le_refl _, Nat.le_refl _⟩
/-- a page is put -/
def heldF (P : List (List Sec)) (p : PgD) : List (List Sec) := if thereB P.length p.page = true then P.set p.page.toNat (putPg p (P.getD p.page.toNat zeroB)) else P
def heldTo (x : DiskD) (k : Nat) : List (List Sec) := ((x.held.take k).take 20).foldl heldF (filesTo x x.files.length).1
theorem heldTo_succ (x : DiskD) (k : Nat) (h : k < x.held.length) : heldTo x (k + 1) = if k < 20 then heldF (heldTo x k) x.held[k] else heldTo x k := by
  unfold heldTo
  by_cases hk : k < 20
  · rw [if_pos hk, List.take_of_length_le (by rw [List.length_take]; omega), List.take_of_length_le (l := x.held.take k) (by rw [List.length_take]; omega), List.take_succ_eq_append_getElem h, List.foldl_append]; rfl
  · rw [if_neg hk, List.take_take, List.take_take, Nat.min_eq_left (by omega), Nat.min_eq_left (by omega)]
theorem heldF_ok {n : Nat} {P : List (List Sec)} (h1 : P.length = n) (h2 : ∀ b ∈ P, BOk b) {p : PgD} (hp : p.Ok) : (heldF P p).length = n ∧ ∀ b ∈ heldF P p, BOk b := by
  unfold heldF
  split
  · rename_i ht
    obtain ⟨q, hq, hql⟩ := there_nat ht
    refine ⟨by rw [List.length_set]; exact h1, set_bok h2 _ (putPg_bok hp ?_)⟩
    rw [hq, Int.toNat_natCast, List.getD_eq_getElem?_getD, List.getElem?_eq_getElem hql]
    exact h2 _ (List.getElem_mem hql)
  · exact ⟨h1, h2⟩
theorem heldTo_ok (x : DiskD) (hx : ∀ p ∈ x.held, p.Ok) (k : Nat) : (heldTo x k).length = diN x ∧ ∀ b ∈ heldTo x k, BOk b := by
  have key : ∀ (l : List PgD) (P : List (List Sec)), (∀ p ∈ l, p.Ok) → P.length = diN x → (∀ b ∈ P, BOk b) → (l.foldl heldF P).length = diN x ∧ ∀ b ∈ l.foldl heldF P, BOk b := by
    intro l
    induction l with
    | nil => intro P _ h1 h2; exact ⟨h1, h2⟩
    | cons p l ih =>
      intro P hl h1 h2
      obtain ⟨h3, h4⟩ := heldF_ok h1 h2 (hl p (by simp))
      exact ih _ (fun y hy => hl y (by simp [hy])) h3 h4
  have h := filesTo_ok x x.files.length
  exact key _ _ (fun p hp => hx p (List.mem_of_mem_take (List.mem_of_mem_take hp))) h.len h.bok
/-- what waits -/
def pgW (p : PgD) : Int × List Sec := (p.page, putPg p zeroB)
def cacheTo (x : DiskD) (k : Nat) : List (Int × List Sec) := ((x.cache.take k).take 20).map pgW
theorem cacheTo_succ (x : DiskD) (k : Nat) (h : k < x.cache.length) : cacheTo x (k + 1) = if k < 20 then cacheTo x k ++ [pgW x.cache[k]] else cacheTo x k := by
  unfold cacheTo
  by_cases hk : k < 20
  · rw [if_pos hk, List.take_of_length_le (by rw [List.length_take]; omega), List.take_of_length_le (l := x.cache.take k) (by rw [List.length_take]; omega), List.take_succ_eq_append_getElem h, List.map_append]; rfl
  · rw [if_neg hk, List.take_take, List.take_take, Nat.min_eq_left (by omega), Nat.min_eq_left (by omega)]
theorem cacheTo_len (x : DiskD) (k : Nat) : (cacheTo x k).length ≤ 20 := by unfold cacheTo; rw [List.length_map, List.length_take]; omega
def diskD (x : DiskD) : Dev := ⟨heldTo x x.held.length, cacheTo x x.cache.length, x.fuse, x.off⟩
def diskS (x : DiskD) : Nat := (filesTo x x.files.length).2
/-- a disk that can be read -/
structure DiskOk (x : DiskD) : Prop where
  held : ∀ p ∈ x.held, p.Ok
  cache : ∀ p ∈ x.cache, p.Ok
  nums : ∀ p ∈ x.cache, (Lit.int .i64 p.page).wf = true
theorem diN_le (x : DiskD) : diN x ≤ 257 := by unfold diN; omega
theorem diskD_good {x : DiskD} (h : DiskOk x) : DGood (diskD x) := by
  obtain ⟨h1, h2⟩ := heldTo_ok x h.held x.held.length
  refine ⟨h2, fun y hy => ?_, fun y hy => ?_, by show (heldTo x _).length ≤ 257; rw [h1]; exact diN_le x⟩
  · obtain ⟨p, hp, rfl⟩ := List.mem_map.1 hy
    exact putPg_bok (h.cache p (List.mem_of_mem_take (List.mem_of_mem_take hp))) zeroB_bok
  · obtain ⟨p, hp, rfl⟩ := List.mem_map.1 hy
    exact h.nums p (List.mem_of_mem_take (List.mem_of_mem_take hp))
/-- files, pages in memory -/
def Files (w : World) (v : Value) (l : List FileV) : Prop := SlR w v 3 l.length (l.flatMap fiC) ∧ ∀ f ∈ l, Ints w f.va f.at_ ∧ Bytes w f.vb f.bytes
abbrev PgsD (w : World) (v : Value) (l : List PgD) : Prop := SlR w v 6 l.length (l.flatMap pgC)
theorem Files.keep {w w' : World} {v : Value} {l : List FileV} (h : Files w v l) (hb : Below w.heap.size w w') : Files w' v l := ⟨SlR.keep h.1 hb, fun f hf => ⟨SlR.keep (h.2 f hf).1 hb, SlR.keep (h.2 f hf).2 hb⟩⟩
/-- a device in a variable is told -/
theorem dsk_of {base g : Nat} {w : World} {d : Dev} {u : Value} (hu : DevO base w u d) {px cx : Option Addr} {pc cc : Nat} (hs : u = .agg #[.slice px d.pages.length pc, .slice cx d.cache.length cc, .int .i64 d.fuse, .bool d.off]) (hg : base ≤ g) (hb : Blk w g 46 [.slice px d.pages.length pc, .slice cx d.cache.length cc, .int .i64 d.fuse, .bool d.off]) : DskA base w g d := by
  obtain ⟨p, c, h1, h2, h3⟩ := hu
  rw [hs] at h1
  simp only [Value.agg.injEq, Array.mk.injEq, List.cons.injEq, true_and, and_true] at h1
  obtain ⟨rfl, rfl⟩ := h1
  exact ⟨_, _, hg, hb, h2, h3⟩
theorem laidB_facts {A : List Int} {kind bytes : Int} {np : Nat} (h : laidB A kind bytes np = true) : 1 ≤ bytes ∧ (A.length : Int) = needN bytes ∧ (kind = 3 ∨ kind = 4) ∧ okB np [] A = true := by
  unfold laidB at h
  simp only [Bool.and_eq_true, Bool.or_eq_true, decide_eq_true_eq] at h
  exact ⟨h.1.1.1, h.1.1.2, h.1.2, h.2⟩
theorem okB_all (np : Nat) : ∀ (A pre : List Int), okB np pre A = true → (∀ a ∈ A, 18 ≤ a ∧ a < np ∧ hasB pre a = false) ∧ A.Nodup := by
  intro A
  induction A with
  | nil => intro pre _; exact ⟨by simp, List.nodup_nil⟩
  | cons a l ih =>
    intro pre h
    simp only [okB, Bool.and_eq_true, decide_eq_true_eq, Bool.not_eq_true'] at h
    obtain ⟨⟨⟨h1, h2⟩, h3⟩, h4⟩ := h
    obtain ⟨i1, i2⟩ := ih _ h4
    have hs : ∀ x ∈ l, hasB pre x = false ∧ a ≠ x := fun x hx => by
      have := (i1 x hx).2.2
      unfold hasB at this ⊢
      rw [List.any_append, Bool.or_eq_false_iff] at this
      refine ⟨this.1, fun e => ?_⟩
      have h5 := this.2
      simp [e] at h5
    refine ⟨fun x hx => ?_, ?_⟩
    · rcases List.mem_cons.1 hx with rfl | hx
      · exact ⟨h1, h2, h3⟩
      · exact ⟨(i1 x hx).1, (i1 x hx).2.1, (hs x hx).1⟩
    · rw [List.nodup_cons]
      exact ⟨fun hx => (hs a hx).2 rfl, i2⟩
set_option maxHeartbeats 8000000 in
set_option maxRecDepth 100000 in
theorem disk_any (x : DiskD) (fv hv cv : Value) (hx : DiskOk x) (w : World) (hf : Files w fv x.files) (hh : PgsD w hv x.held) (hc : PgsD w cv x.cache) :
    Calls Try.prog 20 #[.agg (diskC x fv hv cv).toArray] w fun e w' => ∃ v, e = .returned (.tuple #[v, .int .u64 (diskS x : Int)]) ∧ DevO w.heap.size w' v (diskD x) ∧ Below w.heap.size w w' := by
  obtain ⟨fx, fc, rfl, hfl, hfm⟩ := hf.1.shape
  obtain ⟨hx1, hc1, rfl, hhl, hhm⟩ := hh.shape
  obtain ⟨cx, cc, rfl, hcl, hcm⟩ := hc.shape
  unfold maxLen at hfm hhm hcm
  have HF0 := Lib.hid hf
  have HH0 := Lib.hid hh
  have HC0 := Lib.hid hc
  have HXO := Lib.hid hx
  have HLF : Hid (∀ f ∈ x.files, (fiC f).length = 3) := Lib.hid (fun f hf => rfl)
  have HLH : Hid (∀ f ∈ x.held, (pgC f).length = 6) := Lib.hid (fun f hf => pgC_length (hx.held f hf))
  have HLC : Hid (∀ f ∈ x.cache, (pgC f).length = 6) := Lib.hid (fun f hf => pgC_length (hx.cache f hf))
  clear hf hh hc hx
  obtain ⟨n, hn⟩ : ∃ n, diN x = n := ⟨_, rfl⟩
  have hn257 : n ≤ 257 := hn ▸ diN_le x
  have HN := Lib.hid hn
  have hmx : min (max x.n 0) 257 = (n : Int) := by rw [← hn]; unfold diN; omega
  clear hn
  have hfln : (x.files.length : Int) ≤ 9223372036854775807 := by omega
  have hhln : (x.held.length : Int) ≤ 9223372036854775807 := by omega
  have hcln : (x.cache.length : Int) ≤ 9223372036854775807 := by omega
  have HB := Lib.hid (Below.refl w.heap.size w)
  go_enter Try.func20, Try.ntmps20
  go_upto_region 1 with (fail)
  refine Agg.wp_at fun w1 hw1 => ?_
  have hb : Below w.heap.size w w1 := by rw [hw1.out]; repeat (first | exact Below.refl _ _ | refine Agg.bel_drew ?_ | refine Agg.bel_alloc ?_ _)
  replace HB := Lib.hid (HB.out.trans (hb.mono HB.out.size))
  clear hb
  have H1 : Hid (Blk w1 w.heap.size 38 [.int .i64 x.n, .slice fx x.files.length fc, .slice hx1 x.held.length hc1, .slice cx x.cache.length cc, .int .i64 x.fuse, .bool x.off]) := by show Blk _ _ _ _; rw [hw1.out]; exact (Blk.new w 38 (diskC x (.slice fx x.files.length fc) (.slice hx1 x.held.length hc1) (.slice cx x.cache.length cc)).toArray).al _
  have H2 : Hid (Blk w1 (w.heap.size + 1) 46 [.slice none 0 0, .slice none 0 0, .int .i64 0, .bool false]) := by show Blk _ _ _ _; rw [hw1.out]; exact Blk.newAt (w.alloc _) 46 #[.slice none 0 0, .slice none 0 0, .int .i64 0, .bool false] _ (by simp)
  clear hw1
  have xH1_0 := H1.out.cell 0
  have xH1_1 := H1.out.cell 1
  have xH1_2 := H1.out.cell 2
  have xH1_3 := H1.out.cell 3
  have xH1_4 := H1.out.cell 4
  have xH1_5 := H1.out.cell 5
  have lH1 := H1.out.lt
  simp only [List.getElem?_cons_zero, List.getElem?_cons_succ] at xH1_0 xH1_1 xH1_2 xH1_3 xH1_4 xH1_5
  go_wp2_with (first
    | (refine Agg.max2 _ _ _ (max x.n 0) rfl rfl rfl rfl rfl ?_; simp only [Act.put, List.setIfInBounds_toArray, List.set_cons_succ, List.set_cons_zero])
    | (refine Agg.min2 _ _ _ (n : Int) rfl rfl rfl rfl hmx ?_; simp only [Act.put, List.setIfInBounds_toArray, List.set_cons_succ, List.set_cons_zero]))
  have l2 := H2.out.lt
  clear xH1_0 xH1_1 xH1_2 xH1_3 xH1_4 xH1_5 lH1
  refine (rNew_R n (by omega) w1).mono ?_
  rintro e w2 ⟨u, rfl, hu, hb⟩
  replace HB := Lib.hid (HB.out.trans (hb.mono HB.out.size))
  replace H1 := Lib.hid (H1.out.keep hb)
  replace H2 := Lib.hid (H2.out.keep hb)
  clear hb
  obtain ⟨px, pc, ux, uc, hus⟩ := DevR.shape hu.read
  subst hus
  have HU := Lib.hid (hu.base (show w.heap.size + 1 + 1 ≤ _ from l2))
  clear hu
  have l2b : w.heap.size + 1 + 1 ≤ w2.heap.size := H2.out.lt
  go_upto_region 3 with (fail)
  refine Agg.wp_at fun w3 hw3 => ?_
  have hb : Below w2.heap.size w2 w3 := by rw [hw3.out]; repeat (first | exact Below.refl _ _ | refine Agg.bel_drew ?_ | refine Agg.bel_alloc ?_ _)
  replace HB := Lib.hid (HB.out.trans (hb.mono HB.out.size))
  replace H1 := Lib.hid (H1.out.keep hb)
  replace H2 := Lib.hid (H2.out.keep hb)
  replace HU := Lib.hid (HU.out.keep hb)
  clear hb
  have HD0 : Hid (DskA (w.heap.size + 1 + 1) w3 w2.heap.size (newD n)) := Lib.hid (dsk_of HU.out rfl (by omega) (by rw [hw3.out]; exact Blk.new w2 46 #[.slice px (newD n).pages.length pc, .slice ux (newD n).cache.length uc, .int .i64 (newD n).fuse, .bool (newD n).off]))
  clear hw3
  generalize w2.heap.size = db at *
  have HD1 : Hid (DskA (w.heap.size + 1 + 1) w3 db ⟨(filesTo x 0).1, [], -1, false⟩) := Lib.hid (by rw [← HN.out] at HD0; exact HD0.out)
  clear HD0 HU l2 l2b
  have xH1_0 := H1.out.cell 0
  have xH1_1 := H1.out.cell 1
  have xH1_2 := H1.out.cell 2
  have xH1_3 := H1.out.cell 3
  have xH1_4 := H1.out.cell 4
  have xH1_5 := H1.out.cell 5
  have lH1 := H1.out.lt
  simp only [List.getElem?_cons_zero, List.getElem?_cons_succ] at xH1_0 xH1_1 xH1_2 xH1_3 xH1_4 xH1_5
  go_wp2_with fail
  clear xH1_0 xH1_1 xH1_2 xH1_3 xH1_4 xH1_5 lH1
  have HST0 : Hid ((filesTo x 0).2 = 1) := Lib.hid rfl
  have HLX : Hid (∀ k, FilesOk (diN x) 4 (filesTo x k)) := Lib.hid (fun k => filesTo_ok x k)
  go_loopw [23, 5] (fun ix s5 wr => ∃ k : Nat, k ≤ x.files.length ∧ ix = .int .i64 k ∧ s5 = .int .u64 ((filesTo x k).2 : Int) ∧ Blk wr w.heap.size 38 [.int .i64 x.n, .slice fx x.files.length fc, .slice hx1 x.held.length hc1, .slice cx x.cache.length cc, .int .i64 x.fuse, .bool x.off] ∧ Blk wr (w.heap.size + 1) 46 [.slice none 0 0, .slice none 0 0, .int .i64 0, .bool false] ∧ DskA (w.heap.size + 1 + 1) wr db ⟨(filesTo x k).1, [], -1, false⟩ ∧ Below w.heap.size w wr) (fun ix _ _ => x.files.length - (intOf ix).toNat)
  case atStart => exact ⟨0, by omega, rfl, by rw [HST0.out]; rfl, H1.out, H2.out, HD1.out, HB.out⟩
  case round =>
    obtain ⟨k, hk, rfl, rfl, h1, h2, h3, hb⟩ := hrel
    clear H1 H2 HD1 HB
    have H1 := Lib.hid h1
    have H2 := Lib.hid h2
    have HD := Lib.hid h3
    have HB := Lib.hid hb
    have HFV := Lib.hid (HF0.out.keep hb)
    clear h1 h2 h3 hb
    obtain ⟨wA, hwA⟩ : ∃ x, x = wr := ⟨_, rfl⟩
    subst hwA
    by_cases hlt : k < x.files.length
    · obtain ⟨b2, o2, cap2, hve, _, _, _, _⟩ := SlR.pos HFV.out.1 (by decide) (by omega)
      simp only [Value.slice.injEq, true_and] at hve
      obtain ⟨rfl, rfl⟩ := hve
      have hcs := flat_at fiC 3 (by decide) HFV.out.1 HLF.out hlt
      obtain ⟨hfa, hfb⟩ := HFV.out.2 _ (List.getElem_mem hlt)
      have HFA := Lib.hid hfa
      have HFB := Lib.hid hfb
      have HST := Lib.hid (filesTo_succ x k hlt)
      have HSO := Lib.hid (HLX.out k)
      rw [HN.out] at HSO
      obtain ⟨f, hfe⟩ : ∃ f, x.files[k] = f := ⟨_, rfl⟩
      rw [hfe] at hcs HFA HFB HST
      clear hfe hfa hfb
      obtain ⟨⟨Q, st⟩, hq⟩ : ∃ q, filesTo x k = q := ⟨_, rfl⟩
      rw [hq] at HST HSO HD ⊢
      clear hq
      obtain ⟨fa, fk, fb, fva, fvb⟩ := f
      dsimp only at HFA HFB
      obtain ⟨xa, ca, rfl, _, _⟩ := HFA.out.shape
      obtain ⟨xb, cb, rfl, _, _⟩ := HFB.out.shape
      obtain ⟨rowf, hrow⟩ : ∃ r, r = [Value.slice xa fa.length ca, .int .i64 fk, .slice xb fb.length cb] := ⟨_, rfl⟩
      have hl3 : rowf.length = 3 := by rw [hrow]; rfl
      have hcs2 : ∀ i v, rowf[i]? = some v → wA.cell? ⟨b2, o2 + (k : Int).toNat * 3 + i, none⟩ = some v := by rw [hrow]; exact hcs
      have h1r : ∀ u ∈ rowf, u.oneCell' = true := by rw [hrow]; simp [Value.oneCell']
      clear hcs
      go_upto_region 6 with (first
        | (refine Agg.gLoad 3 rowf rfl rfl rfl (by decide +kernel) hl3 hcs2 ?_; simp only [Act.put, List.setIfInBounds_toArray, List.set_cons_succ, List.set_cons_zero])
        | (refine Agg.allocRow 41 #[.slice none 0 0, .int .i64 0, .slice none 0 0] rfl rfl (by kernel_rfl) ?_; simp only [Act.put, List.setIfInBounds_toArray, List.set_cons_succ, List.set_cons_zero])
        | (refine Agg.gStoreNew 3 rowf rfl rfl rfl rfl rfl rfl (by decide +kernel) hl3 rfl h1r ?_; simp only [Act.put]))
      clear hcs2 h1r hl3
      subst hrow
      obtain ⟨gf, hgf⟩ : ∃ g, wA.heap.size = g := ⟨_, rfl⟩
      have HBX : Hid (Blk (wA.alloc (.cells #[.slice xa fa.length ca, .int .i64 fk, .slice xb fb.length cb] 41)) gf 41 [.slice xa fa.length ca, .int .i64 fk, .slice xb fb.length cb]) := Lib.hid (Blk.newAt wA 41 #[.slice xa fa.length ca, .int .i64 fk, .slice xb fb.length cb] gf hgf.symm)
      have hbA : Below wA.heap.size wA (wA.alloc (.cells #[.slice xa fa.length ca, .int .i64 fk, .slice xb fb.length cb] 41)) := (Below.refl _ _).alloc (Nat.le_refl _) _
      have hgd : db < gf := by rw [← hgf]; exact HD.out.lt
      have hg2 : w.heap.size + 1 < gf := by rw [← hgf]; exact H2.out.lt
      have HB1 := Lib.hid (HB.out.trans (hbA.mono HB.out.size))
      have H11 := Lib.hid (H1.out.keep hbA)
      have H21 := Lib.hid (H2.out.keep hbA)
      have HDX := Lib.hid (HD.out.keep hbA)
      have HFA1 := Lib.hid (SlR.keep HFA.out hbA)
      have HFB1 := Lib.hid (SlR.keep HFB.out hbA)
      refine Agg.wp_at fun wB hwB => ?_
      rw [← hwB.out] at HBX H11 H21 HDX HB1 HFA1 HFB1
      rw [hgf]
      clear hwB hbA hgf HB H1 H2 HD HFA HFB HFV
      have HB := HB1
      clear HB1
      have hbx := HBX.out
      go_wp2_with (refine Agg.gLoadB 3 hbx rfl rfl rfl rfl (by decide +kernel) ?_; simp only [Act.put, List.setIfInBounds_toArray, List.set_cons_succ, List.set_cons_zero])
      clear hbx
      have hgw : gf < wB.heap.size := HBX.out.lt
      refine (fown_any fa fk fb _ _ wB HFA1.out HFB1.out).mono ?_
      rintro e w41 ⟨u2, rfl, hu2, hb⟩
      replace HB := Lib.hid (HB.out.trans (hb.mono HB.out.size))
      replace HBX := Lib.hid (HBX.out.keep hb)
      replace H11 := Lib.hid (H11.out.keep hb)
      replace H21 := Lib.hid (H21.out.keep hb)
      replace HDX := Lib.hid (HDX.out.keep hb)
      clear hb
      obtain ⟨ua, ub, rfl, hua, hub⟩ := hu2
      obtain ⟨A2, hA2⟩ : ∃ l, fa.take 20 = l := ⟨_, rfl⟩
      obtain ⟨B2, hB2⟩ : ∃ l, fb.take 2000 = l := ⟨_, rfl⟩
      have hla : A2.length ≤ 20 := by rw [← hA2, List.length_take]; omega
      have hlb : B2.length ≤ 2000 := by rw [← hB2, List.length_take]; omega
      have HST2 : Hid (filesTo x (k + 1) = if k < 4 then (if laidB A2 fk B2.length Q.length = true then (setPgs Q (blksF fk st B2 0 A2), st + A2.length) else (Q, st)) else (Q, st)) := Lib.hid (by rw [HST.out, ← hA2, ← hB2]; rfl)
      rw [hA2] at hua
      rw [hB2] at hub
      obtain ⟨xu, cu, rfl, _, _⟩ := (ownSl hua).shape
      obtain ⟨yu, du, rfl, _, _⟩ := (ownSl hub).shape
      clear hA2 hB2 HST HFA1 HFB1
      have hbx := HBX.out
      go_upto_region 7 with (refine Agg.gStoreB 3 [.slice xu A2.length cu, .int .i64 fk, .slice yu B2.length du] hbx rfl rfl rfl rfl rfl (by decide +kernel) rfl rfl (by simp [Value.oneCell']) (fun w50 hb50 hg50 => ?_))
      have HUA := Lib.hid (hua.kept hg50 (own_off hua hgw))
      have HUB := Lib.hid (hub.kept hg50 (own_off hub hgw))
      have HF := Lib.hid hb50
      have H12 := Lib.hid (H11.out.far' hg50 (by omega))
      have H22 := Lib.hid (H21.out.far' hg50 (by omega))
      have HDY := Lib.hid (HDX.out.other HBX.out (by omega) (by decide) (by decide) hg50)
      have HB2w := Lib.hid (HB.out.trans (grown_below hg50 HB.out.size (fun j hj => by cases hj; omega)))
      clear hua hub hbx hb50 hg50 HBX H11 H21 HDX HB
      have HB := HB2w
      clear HB2w
      generalize w41.heap.size = bu at *
      obtain ⟨px3, pc3, cx3, cc3, _, hdev, _⟩ := HDY.out.shape
      have HDV := Lib.hid hdev
      clear hdev
      have HUAI := Lib.hid (ownSl HUA.out)
      have hla3 : A2.length ≤ 1000 := by omega
      have hqb : Q.length = n := HSO.out.len
      have HQB := Lib.hid hqb
      obtain ⟨lb, hlb2⟩ : ∃ q, laidB A2 fk B2.length Q.length = q := ⟨_, rfl⟩
      have HLB := Lib.hid hlb2
      have HLC := Lib.hid (fun W (hW : Ints W (.slice xu A2.length cu) A2) => rlaidG_any A2 px3 cx3 xu Q.length pc3 ([] : List (Int × List Sec)).length cc3 cu (-1) false fk B2.length W hW (by omega) (by omega) hla3 lb hlb2)
      rw [hlb2] at HST2
      clear hlb2 hqb
      by_cases h4 : k < 4
      · have h4i : (k : Int) < 4 := by omega
        cases lb
        · have HST3 : Hid (filesTo x (k + 1) = (Q, st)) := Lib.hid (by rw [HST2.out, if_pos h4, if_neg (by decide)])
          refine Agg.listR 13 (by kernel_rfl) ?_
          simp only [List.take_succ_cons, List.take_zero, List.drop_succ_cons, List.drop_zero]
          refine Agg.chMove rfl rfl rfl rfl ?_
          refine Agg.chLt true (decide_eq_true h4i) rfl rfl rfl rfl rfl ?_
          refine Agg.chMove rfl rfl rfl rfl ?_
          refine Agg.chRowB 4 HDV.out rfl (by decide +kernel) rfl rfl rfl rfl ?_
          refine Agg.chFA (by first | exact fo_fo_Dev_0 | exact fo_FFile_0 | exact fo_FPg_0 | exact fo_fo_Wr_0 | exact fo_FDisk_0) rfl rfl rfl rfl ?_
          refine Agg.chLoadB HF.out (by decide +kernel) rfl rfl (by rfl) rfl rfl ?_
          refine Agg.chFA (by first | exact fo_fo_Dev_1 | exact fo_FFile_1 | exact fo_FPg_1 | exact fo_fo_Wr_1 | exact fo_FDisk_1) rfl rfl rfl rfl ?_
          refine Agg.chLoadB HF.out (by decide +kernel) rfl rfl (by rfl) rfl rfl ?_
          refine Agg.chFA (by first | exact fo_fo_Dev_2 | exact fo_FFile_2 | exact fo_FPg_2 | exact fo_FDisk_2) rfl rfl rfl rfl ?_
          refine Agg.chLoadB HF.out (by decide +kernel) rfl rfl (by rfl) rfl rfl ?_
          refine Agg.chLen Try.underlying39 rfl rfl rfl rfl ?_
          refine Agg.chCall Try.func39 rfl (by kernel_rfl) rfl rfl rfl rfl (fun W hb => HLC.out W (SlR.keep HUAI.out hb)) ?_
          refine Agg.chPick rfl rfl rfl rfl rfl ?_
          refine Agg.chEnd ?_
          intro vs w61 hb _
          show Exit.then _ _ Exit.normal _ _
          simp only [List.reverse, List.reverseAux, Agg.fill, List.set_cons_succ, List.set_cons_zero]
          replace HB := Lib.hid (HB.out.trans (hb.mono HB.out.size))
          replace HF := Lib.hid (HF.out.keep hb)
          replace H12 := Lib.hid (H12.out.keep hb)
          replace H22 := Lib.hid (H22.out.keep hb)
          replace HDY := Lib.hid (HDY.out.keep hb)
          replace HDV := Lib.hid (HDV.out.keep hb)
          replace HUA := Lib.hid (HUA.out.keep hb)
          replace HUB := Lib.hid (HUB.out.keep hb)
          clear hb
          clear h4
          go_wp2_with fail
          exact ⟨⟨k + 1, by omega, by go_num, by rw [HST3.out], H12.out, H22.out, by rw [HST3.out]; exact HDY.out, HB.out⟩, by simp [intOf]; omega⟩
        · have HST3 : Hid (filesTo x (k + 1) = (setPgs Q (blksF fk st B2 0 A2), st + A2.length)) := Lib.hid (by rw [HST2.out, if_pos h4, if_pos rfl])
          refine Agg.listR 13 (by kernel_rfl) ?_
          simp only [List.take_succ_cons, List.take_zero, List.drop_succ_cons, List.drop_zero]
          refine Agg.chMove rfl rfl rfl rfl ?_
          refine Agg.chLt true (decide_eq_true h4i) rfl rfl rfl rfl rfl ?_
          refine Agg.chMove rfl rfl rfl rfl ?_
          refine Agg.chRowB 4 HDV.out rfl (by decide +kernel) rfl rfl rfl rfl ?_
          refine Agg.chFA (by first | exact fo_fo_Dev_0 | exact fo_FFile_0 | exact fo_FPg_0 | exact fo_fo_Wr_0 | exact fo_FDisk_0) rfl rfl rfl rfl ?_
          refine Agg.chLoadB HF.out (by decide +kernel) rfl rfl (by rfl) rfl rfl ?_
          refine Agg.chFA (by first | exact fo_fo_Dev_1 | exact fo_FFile_1 | exact fo_FPg_1 | exact fo_fo_Wr_1 | exact fo_FDisk_1) rfl rfl rfl rfl ?_
          refine Agg.chLoadB HF.out (by decide +kernel) rfl rfl (by rfl) rfl rfl ?_
          refine Agg.chFA (by first | exact fo_fo_Dev_2 | exact fo_FFile_2 | exact fo_FPg_2 | exact fo_FDisk_2) rfl rfl rfl rfl ?_
          refine Agg.chLoadB HF.out (by decide +kernel) rfl rfl (by rfl) rfl rfl ?_
          refine Agg.chLen Try.underlying39 rfl rfl rfl rfl ?_
          refine Agg.chCall Try.func39 rfl (by kernel_rfl) rfl rfl rfl rfl (fun W hb => HLC.out W (SlR.keep HUAI.out hb)) ?_
          refine Agg.chPick rfl rfl rfl rfl rfl ?_
          refine Agg.chEnd ?_
          intro vs w62 hb _
          show Exit.then _ _ Exit.normal _ _
          simp only [List.reverse, List.reverseAux, Agg.fill, List.set_cons_succ, List.set_cons_zero]
          replace HB := Lib.hid (HB.out.trans (hb.mono HB.out.size))
          replace HF := Lib.hid (HF.out.keep hb)
          replace H12 := Lib.hid (H12.out.keep hb)
          replace H22 := Lib.hid (H22.out.keep hb)
          replace HDY := Lib.hid (HDY.out.keep hb)
          replace HDV := Lib.hid (HDV.out.keep hb)
          replace HUA := Lib.hid (HUA.out.keep hb)
          replace HUB := Lib.hid (HUB.out.keep hb)
          clear hb
          obtain ⟨hf1, hf2, hf3, hf4⟩ := laidB_facts HLB.out
          obtain ⟨hall, hnd⟩ := okB_all Q.length A2 [] hf4
          have hal1 : 1 ≤ A2.length := by unfold needN at hf2; split at hf2 <;> omega
          have hst1 : 1 ≤ st := HSO.out.st1
          have hst2 : st ≤ 81 := HSO.out.st2
          have HALL : Hid (∀ a ∈ A2, 18 ≤ a ∧ a < n) := Lib.hid (fun a ha => ⟨(hall a ha).1, by have := (hall a ha).2.1; rw [HQB.out] at this; exact this⟩)
          have hn0 : 0 < Q.length := by
            obtain ⟨a, ha⟩ := List.exists_mem_of_length_pos hal1
            have := hall a ha; omega
          have hbt := fun W (hW : Bytes W (.slice yu B2.length du) B2) => rBlocks_any fk st B2 _ A2.length W hW hf3 (by omega) hf2 (by omega)
          have HBT := Lib.hid hbt
          clear hf1 hf2 hf3 hf4 hall hnd HLB HLC h4 h4i hbt
          obtain ⟨pg, pc4, cx4, cc4, r, hdb, hdev2, hpgb, hpg1, hpg2, hpg3⟩ := HDY.out.page hn0
          dsimp only at hdev2 hpgb hpg3
          have HDEV := Lib.hid hdev2
          have HPGB := Lib.hid hpgb
          have HPG3 := Lib.hid hpg3
          have hpgw : pg < w62.heap.size := hpgb.lt
          clear hdev2 hpgb hpg3 HDV
          have HUBI := Lib.hid (ownSl HUB.out)
          have wBL := Below.refl w62.heap.size w62
          have xHF_0 := HF.out.cell 0
          have xHF_1 := HF.out.cell 1
          have xHF_2 := HF.out.cell 2
          have lHF := HF.out.lt
          simp only [List.getElem?_cons_zero, List.getElem?_cons_succ] at xHF_0 xHF_1 xHF_2
          go_wp2_with fail
          clear xHF_0 xHF_1 xHF_2 lHF
          refine (HBT.out w62 HUBI.out).mono ?_
          rintro e w80 ⟨ubl, rfl, hbl, hb80⟩
          obtain ⟨bx5, bc5, rfl, _, _⟩ := (ownSl hbl).shape
          have HBL := Lib.hid hbl
          have HGR0 := Lib.hid (below_grown hb80 (some pg))
          have hbw80 := HB.out.trans (hb80.mono HB.out.size)
          have HFz := Lib.hid (HF.out.keep hb80)
          have H1z := Lib.hid (H12.out.keep hb80)
          have H2z := Lib.hid (H22.out.keep hb80)
          have HUAz := Lib.hid (own_keep HUA.out hb80)
          have HDEVz := Lib.hid (HDEV.out.keep hb80)
          have HPGz := Lib.hid (HPGB.out.keep hb80)
          have hw1 := H12.out.lt
          clear hbl hb80 HBT HUBI HUB HF H12 H22 HDEV HPGB wBL HUA
          have HBz := Lib.hid hbw80
          clear hbw80 HB
          go_wp2_with fail
          have HE0 : Hid (blksF fk st B2 0 (A2.take 0) = []) := Lib.hid rfl
          have hfp : gf ≠ pg := blk_ne HFz.out HPGz.out (by decide)
          have HAP := Lib.hid (own_apart HUAz.out HPGz.out (by decide))
          have HQO := Lib.hid (fun j => setPgs_bok HSO.out.bok (blksF fk st B2 0 (A2.take j)) (blksF_bok fk st B2 (A2.take j) 0 (by rw [List.length_take]; omega)))
          have HQL := Lib.hid (fun j => (setPgs_length Q (blksF fk st B2 0 (A2.take j))).trans HQB.out)
          go_loopw [50, 5] (fun j5 s5 wr => ∃ j : Nat, j ≤ A2.length ∧ j5 = .int .i64 j ∧ s5 = .int .u64 ((st + j : Nat) : Int) ∧ Blk wr pg 64 ((setPgs Q (blksF fk st B2 0 (A2.take j))).flatMap blkC ++ r) ∧ w80.grownBy wr (some pg)) (fun j5 _ _ => A2.length - (intOf j5).toNat)
          case atStart => exact ⟨0, by omega, rfl, rfl, by rw [HE0.out]; exact HPGz.out, World.grownBy.refl _ _⟩
          case round =>
            obtain ⟨j, hj, rfl, rfl, hpj, hgj⟩ := hrel
            obtain ⟨wC, hwC⟩ : ∃ x, x = wr := ⟨_, rfl⟩
            subst hwC
            have HGJ := Lib.hid hgj
            have HPJ := Lib.hid hpj
            clear hpj hgj
            by_cases hlj : j < A2.length
            · have HFc := Lib.hid (HFz.out.far' HGJ.out hfp)
              have HDVc := Lib.hid (HDEVz.out.far' HGJ.out (Ne.symm hpg2))
              have huc := ownSl (HUAz.out.kept HGJ.out HAP.out)
              have hblc := ownSl (HBL.out.kept HGJ.out (own_off HBL.out hpgw))
              obtain ⟨bb, ob, cb, hve, _, _, _, _⟩ := SlR.pos hblc (by decide) (by omega)
              simp only [Value.slice.injEq, true_and] at hve
              obtain ⟨rfl, rfl⟩ := hve
              obtain ⟨gu, ou, cu2, hve, _, _, _, _⟩ := SlR.pos huc (by decide) (by omega)
              simp only [Value.slice.injEq, true_and] at hve
              obtain ⟨rfl, rfl⟩ := hve
              have hcj := ints_at (l := A2) huc hlj
              have hbj : j < (blkL fk st B2 A2.length).length := by rw [blkL_length]; exact hlj
              have hcs := flat_at blkC 132 (by decide) (l := blkL fk st B2 A2.length) (by rw [blkL_length]; exact hblc) (fun b hb => by
                obtain ⟨i, hi, rfl⟩ := List.mem_map.1 hb
                exact bok_cells (lay_bok _ _ _ (partB_len _ _) (by have := List.mem_range.1 hi; omega))) hbj
              rw [blkL_at fk st B2 A2.length j hlj] at hcs
              have hbok := lay_bok fk (partB B2 j) (st + j) (partB_len B2 j) (by omega)
              have hsn : blksF fk st B2 0 (A2.take (j + 1)) = blksF fk st B2 0 (A2.take j) ++ [(A2[j], layB fk (partB B2 j) (st + j))] := by
                rw [List.take_succ_eq_append_getElem hlj, blksF_app, List.length_take, Nat.min_eq_left (by omega), Nat.zero_add]; rfl
              have haa := HALL.out _ (List.getElem_mem hlj)
              obtain ⟨bl, hbl2⟩ : ∃ y, layB fk (partB B2 j) (st + j) = y := ⟨_, rfl⟩
              obtain ⟨a, ha⟩ : ∃ y, A2[j] = y := ⟨_, rfl⟩
              rw [hbl2] at hcs hbok hsn
              rw [ha] at hcj hsn haa
              obtain ⟨an, rfl⟩ : ∃ q : Nat, a = (q : Int) := ⟨a.toNat, by omega⟩
              have han : an < n := by omega
              have hst5 := congrArg (setPgs Q) hsn
              rw [setPgs_snoc, Int.toNat_natCast] at hst5
              have hqo := HQO.out j
              have hql := HQL.out j
              obtain ⟨QJ, hQJ⟩ : ∃ q, setPgs Q (blksF fk st B2 0 (A2.take j)) = q := ⟨_, rfl⟩
              rw [hQJ] at hqo hql hst5 HPJ
              have hin : an < QJ.length := by omega
              have hset := pgs_put QJ hqo an hin bl hbok r
              rw [← hst5] at hset
              have hfit : an * 132 + 132 ≤ (QJ.flatMap blkC ++ r).length := by
                rw [List.length_append, flat_len blkC 132 _ (fun b hb => bok_cells (hqo b hb))]
                have : (an + 1) * 132 ≤ QJ.length * 132 := Nat.mul_le_mul_right _ hin
                omega
              have HSET := Lib.hid hset
              have HFIT := Lib.hid hfit
              have HH132 := Lib.hid (bok_cells hbok)
              have HONE := Lib.hid (blkC_one bl)
              have HCJ := Lib.hid (show wC.cell? ⟨gu, ou + j, none⟩ = some (.int .i64 (an : Int)) from hcj)
              have HCS := Lib.hid hcs
              have hanq : (an : Int) < n := by omega
              have HQN : Q.length = n := HQB.out
              clear hset hfit hbok hst5 hqo hsn haa hcj hcs hQJ ha hbl2 hbj hin hql HALL
              have HBw := Lib.hid (Below.refl wC.heap.size wC)
              obtain ⟨gb, hgb⟩ : ∃ g, wC.heap.size = g := ⟨_, rfl⟩
              go_upto_region 11 with (first
                | (refine Agg.gLoad 132 (blkC bl) rfl rfl rfl (by decide +kernel) HH132.out HCS.out ?_; simp only [Act.put, List.setIfInBounds_toArray, List.set_cons_succ, List.set_cons_zero])
                | (refine Agg.allocRow 64 (blkC zeroB).toArray rfl rfl (by kernel_rfl) ?_; simp only [Act.put, List.setIfInBounds_toArray, List.set_cons_succ, List.set_cons_zero])
                | (refine Agg.gStoreNew 132 (blkC bl) rfl rfl rfl rfl rfl rfl (by decide +kernel) HH132.out zero132 HONE.out ?_; simp only [Act.put]))
              have HX := Lib.hid (Blk.newAt wC 64 (blkC bl).toArray gb hgb.symm)
              have hbD : Below wC.heap.size wC (wC.alloc (.cells (blkC bl).toArray 64)) := (Below.refl _ _).alloc (Nat.le_refl _) _
              have HFd := Lib.hid (HFc.out.keep hbD)
              have HDVd := Lib.hid (HDVc.out.keep hbD)
              have HPd := Lib.hid (HPJ.out.keep hbD)
              have HGd := Lib.hid (grown_trans HGJ.out (below_grown hbD (some pg)))
              have HCd := Lib.hid (cell_keep hbD HCJ.out)
              refine Agg.wp_at fun wD hwD => ?_
              rw [← hwD.out] at HX HFd HDVd HPd HGd HCd
              rw [hgb]
              clear hwD hbD HFc HDVc HPJ HGJ HCJ HCS HBw hgb HONE huc hblc
              have HB := Lib.hid (Below.refl wD.heap.size wD)
              refine Agg.chainR 9 (by kernel_rfl) (by kernel_rfl) ?_
              simp only [List.take_succ_cons, List.take_zero, List.drop_succ_cons, List.drop_zero]
              refine Agg.chFA (by first | exact fo_fo_Dev_0 | exact fo_FFile_0 | exact fo_FPg_0 | exact fo_fo_Wr_0 | exact fo_FDisk_0) rfl rfl rfl rfl ?_
              refine Agg.chLoadB HDVd.out (by decide +kernel) rfl rfl (by rfl) rfl rfl ?_
              refine Agg.chFA (by first | exact fo_fo_Dev_0 | exact fo_FFile_0 | exact fo_FPg_0 | exact fo_fo_Wr_0 | exact fo_FDisk_0) rfl rfl rfl rfl ?_
              refine Agg.chLoadB HFd.out (by decide +kernel) rfl rfl (by rfl) rfl rfl ?_
              refine Agg.chMove rfl rfl rfl rfl ?_
              refine Agg.chIA tiInt (by omega) (by omega) rfl rfl rfl rfl rfl ?_
              refine Agg.chLoad rfl rfl rfl rfl (by decide +kernel) (by simp only [Int.toNat_natCast, Nat.mul_one]; exact HCd.out) ?_
              refine Agg.chRowB 132 HX.out HH132.out (by decide +kernel) rfl rfl rfl rfl ?_
              refine Agg.chIA tiBl (by omega) (by omega) rfl rfl rfl rfl rfl ?_
              refine Agg.chEnd ?_
              intro vs w91 hb hf
              simp only [List.reverse, List.reverseAux, Agg.Facts] at hf
              obtain _ := hf
              simp only [List.reverse, List.reverseAux, Agg.fill, List.set_cons_succ, List.set_cons_zero]
              simp only [Nat.zero_add, Int.toNat_natCast]
              refine Agg.gStoreMid 132 (an * 132) (blkC bl) (HPd.out.keep hb) rfl rfl rfl rfl rfl (by decide +kernel) HH132.out HFIT.out (blkC_one _) (fun w98 hb98 hg98 => ?_)
              rw [HSET.out] at hb98
              have hgE := grown_trans HGd.out (grown_trans (below_grown hb (some pg)) hg98)
              refine Agg.wpNil ?_
              clear hb hg98 HX HFd HDVd HPd HGd HCd HFIT HSET HH132
              have hadd : IntKind.u64.wrap (((st + j : Nat) : Int) + 1) = ((st + (j + 1) : Nat) : Int) := by rw [u64_small (by omega) (by omega)]; omega
              have HADD := Lib.hid hadd
              obtain ⟨sj, hsj⟩ : ∃ q, st + j = q := ⟨_, rfl⟩
              rw [hsj] at HADD ⊢
              clear hadd hsj
              go_wp2_with fail
              exact ⟨⟨j + 1, by omega, by go_num, by rw [← HADD.out], hb98, hgE⟩, by simp [intOf]; omega⟩
            · obtain rfl : j = A2.length := by omega
              rw [List.take_length] at HPJ
              have hdn := HPG3.out wC _ (setPgs_length Q (blksF fk st B2 0 A2)) (setPgs_bok HSO.out.bok (blksF fk st B2 0 A2) (blksF_bok fk st B2 A2 0 (by omega))) HSO.out.bok HPJ.out (grown_trans HGR0.out HGJ.out)
              have h1c := H1z.out.far' HGJ.out (by omega)
              have h2c := H2z.out.far' HGJ.out (by omega)
              have hbc := HBz.out.trans (grown_below HGJ.out HBz.out.size (fun q e => by cases e; omega))
              have HDN := Lib.hid hdn
              clear hdn HALL HQO HQL HAP
              go_wp2_with fail
              exact ⟨⟨k + 1, by omega, by go_num, by rw [HST3.out], h1c, h2c, by rw [HST3.out]; exact HDN.out, hbc⟩, by simp [intOf]; omega⟩
      · have h4i : ¬ (k : Int) < 4 := by omega
        have HST3 : Hid (filesTo x (k + 1) = (Q, st)) := Lib.hid (by rw [HST2.out, if_neg h4])
        refine Agg.listR 13 (by kernel_rfl) ?_
        simp only [List.take_succ_cons, List.take_zero, List.drop_succ_cons, List.drop_zero]
        refine Agg.chMove rfl rfl rfl rfl ?_
        refine Agg.chLt false (decide_eq_false h4i) rfl rfl rfl rfl rfl ?_
        refine Agg.chMove rfl rfl rfl rfl ?_
        refine Agg.chSkip rfl rfl ?_
        refine Agg.chSkip rfl rfl ?_
        refine Agg.chSkip rfl rfl ?_
        refine Agg.chSkip rfl rfl ?_
        refine Agg.chSkip rfl rfl ?_
        refine Agg.chSkip rfl rfl ?_
        refine Agg.chSkip rfl rfl ?_
        refine Agg.chSkip rfl rfl ?_
        refine Agg.chSkip rfl rfl ?_
        refine Agg.chPick rfl rfl rfl rfl rfl ?_
        refine Agg.chEnd ?_
        intro vs w92 hb _
        show Exit.then _ _ Exit.normal _ _
        simp only [List.reverse, List.reverseAux, Agg.fill, List.set_cons_succ, List.set_cons_zero]
        replace HB := Lib.hid (HB.out.trans (hb.mono HB.out.size))
        replace HF := Lib.hid (HF.out.keep hb)
        replace H12 := Lib.hid (H12.out.keep hb)
        replace H22 := Lib.hid (H22.out.keep hb)
        replace HDY := Lib.hid (HDY.out.keep hb)
        replace HDV := Lib.hid (HDV.out.keep hb)
        replace HUA := Lib.hid (HUA.out.keep hb)
        replace HUB := Lib.hid (HUB.out.keep hb)
        clear hb
        clear h4
        go_wp2_with fail
        exact ⟨⟨k + 1, by omega, by go_num, by rw [HST3.out], H12.out, H22.out, by rw [HST3.out]; exact HDY.out, HB.out⟩, by simp [intOf]; omega⟩
    · obtain rfl : k = x.files.length := by omega
      clear HFV HF0 HST0 HLX
      have xH1_0 := H1.out.cell 0
      have xH1_1 := H1.out.cell 1
      have xH1_2 := H1.out.cell 2
      have xH1_3 := H1.out.cell 3
      have xH1_4 := H1.out.cell 4
      have xH1_5 := H1.out.cell 5
      have lH1 := H1.out.lt
      simp only [List.getElem?_cons_zero, List.getElem?_cons_succ] at xH1_0 xH1_1 xH1_2 xH1_3 xH1_4 xH1_5
      go_upto_region 15 with (fail)
      go_wp2_with fail
      clear xH1_0 xH1_1 xH1_2 xH1_3 xH1_4 xH1_5 lH1
      obtain ⟨sv, hsv⟩ : ∃ s, diskS x = s := ⟨_, rfl⟩
      have hsv2 : (filesTo x x.files.length).2 = sv := hsv
      rw [hsv2]
      have HSV := Lib.hid hsv
      clear hsv hsv2
      have HLX : Hid (∀ k, (heldTo x k).length = diN x ∧ ∀ b ∈ heldTo x k, BOk b) := Lib.hid (fun k => heldTo_ok x HXO.out.held k)
      go_loopw [71] (fun ix wr => ∃ k : Nat, k ≤ x.held.length ∧ ix = .int .i64 k ∧ Blk wr w.heap.size 38 [.int .i64 x.n, .slice fx x.files.length fc, .slice hx1 x.held.length hc1, .slice cx x.cache.length cc, .int .i64 x.fuse, .bool x.off] ∧ Blk wr (w.heap.size + 1) 46 [.slice none 0 0, .slice none 0 0, .int .i64 0, .bool false] ∧ DskA (w.heap.size + 1 + 1) wr db ⟨heldTo x k, [], -1, false⟩ ∧ Below w.heap.size w wr) (fun ix _ => x.held.length - (intOf ix).toNat)
      case atStart => exact ⟨0, by omega, rfl, H1.out, H2.out, HD.out, HB.out⟩
      case round =>
        obtain ⟨k, hk, rfl, h1, h2, h3, hb⟩ := hrel
        clear H1 H2 HD HB
        have H1 := Lib.hid h1
        have H2 := Lib.hid h2
        have HD := Lib.hid h3
        have HB := Lib.hid hb
        have HHV := Lib.hid (SlR.keep HH0.out hb)
        clear h1 h2 h3 hb
        obtain ⟨wA, hwA⟩ : ∃ x, x = wr := ⟨_, rfl⟩
        subst hwA
        by_cases hlt : k < x.held.length
        · obtain ⟨b2, o2, cap2, hve, _, _, _, _⟩ := SlR.pos HHV.out (by decide) (by omega)
          simp only [Value.slice.injEq, true_and] at hve
          obtain ⟨rfl, rfl⟩ := hve
          have hcs := flat_at pgC 6 (by decide) HHV.out HLH.out hlt
          have HST := Lib.hid (heldTo_succ x k hlt)
          have HSO := Lib.hid (HLX.out k)
          rw [HN.out] at HSO
          have hpo := HXO.out.held _ (List.getElem_mem hlt)
          obtain ⟨p, hpe⟩ : ∃ f, x.held[k] = f := ⟨_, rfl⟩
          rw [hpe] at hcs HST hpo
          clear hpe
          have HPO := Lib.hid hpo
          obtain ⟨Q, hq⟩ : ∃ q, heldTo x k = q := ⟨_, rfl⟩
          rw [hq] at HST HSO HD
          clear hq
          obtain ⟨gf, hgf⟩ : ∃ g, wA.heap.size = g := ⟨_, rfl⟩
          have H66 := Lib.hid (pgC_length hpo)
          have HO6 := Lib.hid (pgC_one p)
          have HCS := Lib.hid hcs
          clear hcs hpo
          go_upto_region 18 with (first
            | (refine Agg.gLoad 6 (pgC p) rfl rfl rfl (by decide +kernel) H66.out HCS.out ?_; simp only [Act.put, List.setIfInBounds_toArray, List.set_cons_succ, List.set_cons_zero])
            | (refine Agg.allocRow 83 pg0.toArray rfl rfl (by kernel_rfl) ?_; simp only [Act.put, List.setIfInBounds_toArray, List.set_cons_succ, List.set_cons_zero])
            | (refine Agg.gStoreNew 6 (pgC p) rfl rfl rfl rfl rfl rfl (by decide +kernel) H66.out rfl HO6.out ?_; simp only [Act.put]))
          have HX := Lib.hid (Blk.newAt wA 83 (pgC p).toArray gf hgf.symm)
          have hbA : Below wA.heap.size wA (wA.alloc (.cells (pgC p).toArray 83)) := (Below.refl _ _).alloc (Nat.le_refl _) _
          have HB1 := Lib.hid (HB.out.trans (hbA.mono HB.out.size))
          have H11 := Lib.hid (H1.out.keep hbA)
          have H21 := Lib.hid (H2.out.keep hbA)
          have HDX := Lib.hid (HD.out.keep hbA)
          refine Agg.wp_at fun wB hwB => ?_
          rw [← hwB.out] at HX H11 H21 HDX HB1
          rw [hgf]
          clear hwB hbA hgf HB H1 H2 HD HHV HO6
          have HB := HB1
          clear HB1
          obtain ⟨px3, pc3, cx3, cc3, _, hdev, _⟩ := HDX.out.shape
          have HDV := Lib.hid hdev
          clear hdev
          have hx0 : (pgC p)[0]? = some (.int .i64 p.page) := rfl
          have hqb : Q.length = n := HSO.out.1
          obtain ⟨tb, htb⟩ : ∃ q, thereB Q.length p.page = q := ⟨_, rfl⟩
          have HTB := Lib.hid htb
          have HTC := Lib.hid (fun W => rThere_any px3 cx3 Q.length pc3 ([] : List (Int × List Sec)).length cc3 (-1) false p.page W (by omega) tb htb)
          clear htb
          by_cases h20 : k < 20
          · have h20i : (k : Int) < 20 := by omega
            cases tb
            · have HST3 : Hid (heldTo x (k + 1) = Q) := Lib.hid (by rw [HST.out, if_pos h20, heldF, if_neg (by rw [HTB.out]; decide)])
              refine Agg.listR 8 (by kernel_rfl) ?_
              simp only [List.take_succ_cons, List.take_zero, List.drop_succ_cons, List.drop_zero]
              refine Agg.chMove rfl rfl rfl rfl ?_
              refine Agg.chLt true (decide_eq_true h20i) rfl rfl rfl rfl rfl ?_
              refine Agg.chMove rfl rfl rfl rfl ?_
              refine Agg.chRowB 4 HDV.out rfl (by decide +kernel) rfl rfl rfl rfl ?_
              refine Agg.chFA fo_FPg_0 rfl rfl rfl rfl ?_
              refine Agg.chLoadB HX.out (by decide +kernel) rfl rfl hx0 rfl rfl ?_
              refine Agg.chCall Try.func41 rfl (by kernel_rfl) rfl rfl rfl rfl (fun W hb => HTC.out W) ?_
              refine Agg.chPick rfl rfl rfl rfl rfl ?_
              refine Agg.chEnd ?_
              intro vs w141 hb _
              show Exit.then _ _ Exit.normal _ _
              simp only [List.reverse, List.reverseAux, Agg.fill, List.set_cons_succ, List.set_cons_zero]
              replace HB := Lib.hid (HB.out.trans (hb.mono HB.out.size))
              replace HX := Lib.hid (HX.out.keep hb)
              replace H11 := Lib.hid (H11.out.keep hb)
              replace H21 := Lib.hid (H21.out.keep hb)
              replace HDX := Lib.hid (HDX.out.keep hb)
              replace HDV := Lib.hid (HDV.out.keep hb)
              clear hb
              clear h20
              go_wp2_with fail
              exact ⟨⟨k + 1, by omega, by go_num, H11.out, H21.out, by rw [HST3.out]; exact HDX.out, HB.out⟩, by simp [intOf]; omega⟩
            · obtain ⟨q, hqp, hqn⟩ := there_nat HTB.out
              have HST3 : Hid (heldTo x (k + 1) = Q.set q (putPg p Q[q])) := Lib.hid (by
                rw [HST.out, if_pos h20, heldF, if_pos HTB.out, hqp, Int.toNat_natCast, List.getD_eq_getElem?_getD, List.getElem?_eq_getElem hqn]; rfl)
              rw [hqp] at hx0 HTC
              refine Agg.listR 8 (by kernel_rfl) ?_
              simp only [List.take_succ_cons, List.take_zero, List.drop_succ_cons, List.drop_zero]
              refine Agg.chMove rfl rfl rfl rfl ?_
              refine Agg.chLt true (decide_eq_true h20i) rfl rfl rfl rfl rfl ?_
              refine Agg.chMove rfl rfl rfl rfl ?_
              refine Agg.chRowB 4 HDV.out rfl (by decide +kernel) rfl rfl rfl rfl ?_
              refine Agg.chFA fo_FPg_0 rfl rfl rfl rfl ?_
              refine Agg.chLoadB HX.out (by decide +kernel) rfl rfl hx0 rfl rfl ?_
              refine Agg.chCall Try.func41 rfl (by kernel_rfl) rfl rfl rfl rfl (fun W hb => HTC.out W) ?_
              refine Agg.chPick rfl rfl rfl rfl rfl ?_
              refine Agg.chEnd ?_
              intro vs w142 hb _
              show Exit.then _ _ Exit.normal _ _
              simp only [List.reverse, List.reverseAux, Agg.fill, List.set_cons_succ, List.set_cons_zero]
              replace HB := Lib.hid (HB.out.trans (hb.mono HB.out.size))
              replace HX := Lib.hid (HX.out.keep hb)
              replace H11 := Lib.hid (H11.out.keep hb)
              replace H21 := Lib.hid (H21.out.keep hb)
              replace HDX := Lib.hid (HDX.out.keep hb)
              replace HDV := Lib.hid (HDV.out.keep hb)
              clear hb
              clear h20 h20i
              obtain ⟨pg, pc4, cx4, cc4, r, hdb, hdev2, hpgb, hpg1, hpg2, hpg3⟩ := HDX.out.page (by show 0 < Q.length; omega)
              dsimp only at hdev2 hpgb hpg3
              have hbq := HSO.out.2 _ (List.getElem_mem hqn)
              have hpgc := pgs_split0 Q q hqn r
              have hpgc2 := pgs_split Q q hqn (putPg p Q[q]) r
              have hpre := pgs_pre Q HSO.out.2 q hqn
              rw [hpgc] at hpgb
              have HDEV := Lib.hid hdev2
              have HPGB := Lib.hid hpgb
              have HPG3 := Lib.hid hpg3
              have hput := fun W (hW : Blk W pg 64 ((Q.take q).flatMap blkC ++ (blkC Q[q] ++ ((Q.drop (q + 1)).flatMap blkC ++ r)))) => pput_any p HPO.out Q[q] hbq pg 64 ((Q.take q).flatMap blkC) ((Q.drop (q + 1)).flatMap blkC ++ r) W hW
              rw [hpre] at hput
              have HPUT := Lib.hid hput
              have HPC2 := Lib.hid hpgc2
              have hgx := HX.out.lt
              have hgp : gf ≠ pg := blk_ne HX.out hpgb (by decide)
              clear hdev2 hpgb hpg3 HDV hput hpgc hpgc2 hpre hbq hqp HTC HTB
              have hbW := Lib.hid (Below.refl w142.heap.size w142)
              go_upto_region 19 with (fail)
              refine Agg.chainR 6 (by kernel_rfl) (by kernel_rfl) ?_
              simp only [List.take_succ_cons, List.take_zero, List.drop_succ_cons, List.drop_zero]
              refine Agg.chRowB 6 HX.out H66.out (by decide +kernel) rfl rfl rfl rfl ?_
              refine Agg.chFA (by first | exact fo_fo_Dev_0 | exact fo_FFile_0 | exact fo_FPg_0 | exact fo_fo_Wr_0 | exact fo_FDisk_0) rfl rfl rfl rfl ?_
              refine Agg.chLoadB HDEV.out (by decide +kernel) rfl rfl (by rfl) rfl rfl ?_
              refine Agg.chFA fo_FPg_0 rfl rfl rfl rfl ?_
              refine Agg.chLoadB HX.out (by decide +kernel) rfl rfl hx0 rfl rfl ?_
              refine Agg.chIA tiBl (by omega) (by omega) rfl rfl rfl rfl rfl ?_
              refine Agg.chEnd ?_
              intro vs w143 hb hf
              simp only [List.reverse, List.reverseAux, Agg.Facts] at hf
              obtain _ := hf
              simp only [List.reverse, List.reverseAux, Agg.fill, List.set_cons_succ, List.set_cons_zero]
              simp only [Nat.zero_add, Int.toNat_natCast]
              refine Agg.tCall Try.func42 rfl (by kernel_rfl) rfl rfl (args := [.tmp 84, .tmp 89]) (vs := [.agg (pgC p).toArray, .pointer (some ⟨pg, q * 132, none⟩)]) rfl ?_
              refine (HPUT.out w143 (HPGB.out.keep hb)).mono ?_
              rintro e w99 ⟨rfl, hp9, hg9⟩
              refine ⟨_, rfl, ?_⟩
              refine Agg.wpNil ?_
              rw [show putPg p Q[q] = putPg p Q[q] from rfl, ← HPC2.out] at hp9
              have hgE := grown_trans (below_grown hb (some pg)) hg9
              have hqbok := set_bok HSO.out.2 q (putPg_bok HPO.out (HSO.out.2 _ (List.getElem_mem hqn)))
              have hdn := HPG3.out w99 (Q.set q (putPg p Q[q])) (by rw [List.length_set]) hqbok HSO.out.2 hp9 hgE
              have h1c := H11.out.far' hgE (by omega)
              have h2c := H21.out.far' hgE (by omega)
              have hbc := HB.out.trans (grown_below hgE HB.out.size (fun q e => by cases e; omega))
              have HDN := Lib.hid hdn
              clear hdn hqbok hp9 hgE hg9 hb HPUT HPC2 HPG3 HPGB HDEV HX
              go_wp2_with fail
              exact ⟨⟨k + 1, by omega, by go_num, h1c, h2c, by rw [HST3.out]; exact HDN.out, hbc⟩, by simp [intOf]; omega⟩
          · have h20i : ¬ (k : Int) < 20 := by omega
            have HST3 : Hid (heldTo x (k + 1) = Q) := Lib.hid (by rw [HST.out, if_neg h20])
            refine Agg.listR 8 (by kernel_rfl) ?_
            simp only [List.take_succ_cons, List.take_zero, List.drop_succ_cons, List.drop_zero]
            refine Agg.chMove rfl rfl rfl rfl ?_
            refine Agg.chLt false (decide_eq_false h20i) rfl rfl rfl rfl rfl ?_
            refine Agg.chMove rfl rfl rfl rfl ?_
            refine Agg.chSkip rfl rfl ?_
            refine Agg.chSkip rfl rfl ?_
            refine Agg.chSkip rfl rfl ?_
            refine Agg.chSkip rfl rfl ?_
            refine Agg.chPick rfl rfl rfl rfl rfl ?_
            refine Agg.chEnd ?_
            intro vs w144 hb _
            show Exit.then _ _ Exit.normal _ _
            simp only [List.reverse, List.reverseAux, Agg.fill, List.set_cons_succ, List.set_cons_zero]
            replace HB := Lib.hid (HB.out.trans (hb.mono HB.out.size))
            replace HX := Lib.hid (HX.out.keep hb)
            replace H11 := Lib.hid (H11.out.keep hb)
            replace H21 := Lib.hid (H21.out.keep hb)
            replace HDX := Lib.hid (HDX.out.keep hb)
            replace HDV := Lib.hid (HDV.out.keep hb)
            clear hb
            clear h20
            go_wp2_with fail
            exact ⟨⟨k + 1, by omega, by go_num, H11.out, H21.out, by rw [HST3.out]; exact HDX.out, HB.out⟩, by simp [intOf]; omega⟩
        · obtain rfl : k = x.held.length := by omega
          have HHK := HLX.out x.held.length
          rw [HN.out] at HHK
          have HHO := Lib.hid HHK
          clear HHV HH0 HLX HHK
          obtain ⟨HP5, hhp⟩ : ∃ q, heldTo x x.held.length = q := ⟨_, rfl⟩
          have HHP := Lib.hid hhp
          rw [hhp] at HD HHO
          clear hhp
          have xH1_0 := H1.out.cell 0
          have xH1_1 := H1.out.cell 1
          have xH1_2 := H1.out.cell 2
          have xH1_3 := H1.out.cell 3
          have xH1_4 := H1.out.cell 4
          have xH1_5 := H1.out.cell 5
          have lH1 := H1.out.lt
          simp only [List.getElem?_cons_zero, List.getElem?_cons_succ] at xH1_0 xH1_1 xH1_2 xH1_3 xH1_4 xH1_5
          go_upto_region 21 with (fail)
          go_wp2_with fail
          clear xH1_0 xH1_1 xH1_2 xH1_3 xH1_4 xH1_5 lH1
          have HLX : Hid (∀ k, (cacheTo x k).length ≤ 20) := Lib.hid (fun k => cacheTo_len x k)
          go_loopw [95] (fun ix wr => ∃ k : Nat, k ≤ x.cache.length ∧ ix = .int .i64 k ∧ Blk wr w.heap.size 38 [.int .i64 x.n, .slice fx x.files.length fc, .slice hx1 x.held.length hc1, .slice cx x.cache.length cc, .int .i64 x.fuse, .bool x.off] ∧ Blk wr (w.heap.size + 1) 46 [.slice none 0 0, .slice none 0 0, .int .i64 0, .bool false] ∧ DskA (w.heap.size + 1 + 1) wr db ⟨HP5, cacheTo x k, -1, false⟩ ∧ Below w.heap.size w wr) (fun ix _ => x.cache.length - (intOf ix).toNat)
          case atStart => exact ⟨0, by omega, rfl, H1.out, H2.out, HD.out, HB.out⟩
          case round =>
            obtain ⟨k, hk, rfl, h1, h2, h3, hb⟩ := hrel
            clear H1 H2 HD HB
            have H1 := Lib.hid h1
            have H2 := Lib.hid h2
            have HD := Lib.hid h3
            have HB := Lib.hid hb
            have HCV := Lib.hid (SlR.keep HC0.out hb)
            clear h1 h2 h3 hb
            obtain ⟨wA, hwA⟩ : ∃ x, x = wr := ⟨_, rfl⟩
            subst hwA
            by_cases hlt : k < x.cache.length
            · obtain ⟨b2, o2, cap2, hve, _, _, _, _⟩ := SlR.pos HCV.out (by decide) (by omega)
              simp only [Value.slice.injEq, true_and] at hve
              obtain ⟨rfl, rfl⟩ := hve
              have hcs := flat_at pgC 6 (by decide) HCV.out HLC.out hlt
              have HST := Lib.hid (cacheTo_succ x k hlt)
              have HSL := Lib.hid (HLX.out k)
              have hpo := HXO.out.cache _ (List.getElem_mem hlt)
              obtain ⟨p, hpe⟩ : ∃ f, x.cache[k] = f := ⟨_, rfl⟩
              rw [hpe] at hcs HST hpo
              clear hpe
              have HPO := Lib.hid hpo
              obtain ⟨Q, hq⟩ : ∃ q, cacheTo x k = q := ⟨_, rfl⟩
              rw [hq] at HST HSL HD
              clear hq
              obtain ⟨gf, hgf⟩ : ∃ g, wA.heap.size = g := ⟨_, rfl⟩
              have H66 := Lib.hid (pgC_length hpo)
              have HO6 := Lib.hid (pgC_one p)
              have HCS := Lib.hid hcs
              clear hcs hpo
              go_upto_region 24 with (first
                | (refine Agg.gLoad 6 (pgC p) rfl rfl rfl (by decide +kernel) H66.out HCS.out ?_; simp only [Act.put, List.setIfInBounds_toArray, List.set_cons_succ, List.set_cons_zero])
                | (refine Agg.allocRow 83 pg0.toArray rfl rfl (by kernel_rfl) ?_; simp only [Act.put, List.setIfInBounds_toArray, List.set_cons_succ, List.set_cons_zero])
                | (refine Agg.gStoreNew 6 (pgC p) rfl rfl rfl rfl rfl rfl (by decide +kernel) H66.out rfl HO6.out ?_; simp only [Act.put]))
              have HX := Lib.hid (Blk.newAt wA 83 (pgC p).toArray gf hgf.symm)
              have hbA : Below wA.heap.size wA (wA.alloc (.cells (pgC p).toArray 83)) := (Below.refl _ _).alloc (Nat.le_refl _) _
              have HB1 := Lib.hid (HB.out.trans (hbA.mono HB.out.size))
              have H11 := Lib.hid (H1.out.keep hbA)
              have H21 := Lib.hid (H2.out.keep hbA)
              have HDX := Lib.hid (HD.out.keep hbA)
              refine Agg.wp_at fun wB hwB => ?_
              rw [← hwB.out] at HX H11 H21 HDX HB1
              rw [hgf]
              clear hwB hbA hgf HB H1 H2 HD HCV HO6
              have HB := HB1
              clear HB1
              have hx0 := HX.out.cell 0
              have hx0v : (pgC p)[0]? = some (.int .i64 p.page) := rfl
              rw [hx0v] at hx0
              clear hx0v
              by_cases h20 : k < 20
              · have h20i : (k : Int) < 20 := by omega
                have HST3 : Hid (cacheTo x (k + 1) = Q ++ [(p.page, putPg p zeroB)]) := Lib.hid (by rw [HST.out, if_pos h20]; rfl)
                have hzb : ∀ W, (Instr.build 88 #[(0, .int .i64 p.page)]).run Try.prog W = .ok (.agg (wrC (p.page, zeroB)).toArray) W := fun W => build_wr0 p.page W
                have hw1 := wrC_length (p.page, zeroB) zeroB_bok
                have hw2 := wrC_one (p.page, zeroB)
                have hw3 : wrC (p.page, zeroB) = [.int .i64 p.page] ++ (blkC zeroB ++ []) := by rw [List.append_nil]; rfl
                obtain ⟨wz, hwz⟩ : ∃ z, wrC (p.page, zeroB) = z := ⟨_, rfl⟩
                rw [hwz] at hzb hw1 hw2 hw3
                have HZB := Lib.hid hzb
                have HW133 := Lib.hid hw1
                have HWO := Lib.hid hw2
                have HWZ := Lib.hid hw3
                clear h20 hzb hw1 hw2 hw3 hwz
                obtain ⟨gw, hgw⟩ : ∃ g, wB.heap.size = g := ⟨_, rfl⟩
                go_upto_region 26 with (first
                  | (refine Agg.gBuildA (u := .int .i64 p.page) (.agg (wz).toArray) rfl rfl rfl HZB.out ?_; simp only [Act.put, List.setIfInBounds_toArray, List.set_cons_succ, List.set_cons_zero])
                  | (refine Agg.allocRow 88 wr0.toArray rfl rfl (by kernel_rfl) ?_; simp only [Act.put, List.setIfInBounds_toArray, List.set_cons_succ, List.set_cons_zero])
                  | (refine Agg.gStoreNew 133 (wz) rfl rfl rfl rfl rfl rfl (by decide +kernel) HW133.out wr0_size HWO.out ?_; simp only [Act.put]))
                have HW := Lib.hid (Blk.newAt wB 88 (wz).toArray gw hgw.symm)
                have hbD : Below wB.heap.size wB (wB.alloc (.cells wz.toArray 88)) := (Below.refl _ _).alloc (Nat.le_refl _) _
                refine Agg.wp_at fun wD hwD => ?_
                rw [← hwD.out] at HW hbD
                rw [hgw]
                clear hwD hx0
                have hx2 := HX.out.keep hbD
                have hpt := pput_any p HPO.out zeroB zeroB_bok gw 88 [.int .i64 p.page] [] wD (by rw [← HWZ.out]; exact HW.out)
                have HPT := Lib.hid hpt
                clear hpt
                go_wp2_with (refine Agg.gLoadB 6 hx2 H66.out rfl rfl rfl (by decide +kernel) ?_; simp only [Act.put, List.setIfInBounds_toArray, List.set_cons_succ, List.set_cons_zero])
                clear hx2
                refine HPT.out.mono ?_
                rintro e wE ⟨rfl, hwE, hgE⟩
                have hbE : Below wB.heap.size wB wE := hbD.trans (grown_below hgE hbD.size (fun j e => by cases e; omega))
                have hw133b := wrC_length (p.page, putPg p zeroB) (putPg_bok HPO.out zeroB_bok)
                have hwEe : [Value.int .i64 p.page] ++ (blkC (putPg p zeroB) ++ []) = wrC (p.page, putPg p zeroB) := by rw [List.append_nil]; rfl
                rw [hwEe] at hwE
                have HB1 := Lib.hid (HB.out.trans (hbE.mono HB.out.size))
                have h1e := H11.out.keep hbE
                have h2e := H21.out.keep hbE
                have hde := HDX.out.keep hbE
                have hlit := fun W => lit_wr p.page (putPg p zeroB) (putPg_bok HPO.out zeroB_bok) W
                have hwone := wrC_one (p.page, putPg p zeroB)
                obtain ⟨wy, hwy⟩ : ∃ z, wrC (p.page, putPg p zeroB) = z := ⟨_, rfl⟩
                rw [hwy] at hwE hw133b hlit hwone
                have HWE := Lib.hid hwE
                have HLIT := Lib.hid hlit
                have HW133c := Lib.hid hw133b
                have HWONE := Lib.hid hwone
                have H1e := Lib.hid h1e
                have H2e := Lib.hid h2e
                have hfl : (Q.flatMap wrC ++ wy) = (Q ++ [(p.page, putPg p zeroB)]).flatMap wrC := by rw [List.flatMap_append, ← hwy]; simp
                have HFL := Lib.hid hfl
                obtain ⟨p5, c5, hdb, hblk, hpr, hcr⟩ := hde
                dsimp only at hblk hpr hcr
                obtain ⟨px5, pc5, rfl, _, _⟩ := (ownSl hpr).shape
                obtain ⟨cx5, cc5, rfl, _, _⟩ := (ownSl hcr).shape
                have HBLK := Lib.hid hblk
                have HPR := Lib.hid hpr
                have HCR := Lib.hid hcr
                have hq20 : Q.length ≤ 20 := HSL.out
                have hsE : w.heap.size + 1 + 1 ≤ wE.heap.size := by have := H2e.out.lt; omega
                clear hbD hwE hgE hbE hw133b hwEe h1e h2e hlit hwone hwy hfl hblk hpr hcr HB HPT HW HX H11 H21 HDX HZB HWZ HWO HW133 hgw
                have HB := HB1
                clear HB1
                have d1 := HBLK.out.cell 1
                simp only [List.getElem?_cons_succ, List.getElem?_cons_zero] at d1
                have hbX : Below wE.heap.size wE (wE.alloc (.cells wy.toArray 88)) := (Below.refl _ _).alloc (Nat.le_refl _) _
                have HCX := Lib.hid (own_keep HCR.out hbX)
                have HBX := Lib.hid (HBLK.out.keep hbX)
                have HPX := Lib.hid (own_keep HPR.out hbX)
                have HSX : Hid (SlR (wE.alloc (.cells wy.toArray 88)) (.slice (some ⟨wE.heap.size, 0, none⟩) 1 1) 133 1 wy) := Lib.hid (NewSl.sl (sz := 133) (b0 := 0) (e := 88) (cs := wy) ⟨_, rfl, Nat.zero_le _, Blk.new wE 88 wy.toArray⟩ (by rw [HW133c.out]) (by unfold maxLen; decide))
                have hlw : w.heap.size + 1 + 1 ≤ (wE.alloc (.cells wy.toArray 88)).heap.size := Nat.le_trans hsE hbX.size
                have HNE := Lib.hid (own_apart HCX.out HBX.out (by decide))
                go_upto_region 28 with (first
                  | (refine Agg.gLoadB 133 HWE.out HW133c.out rfl rfl rfl (by decide +kernel) ?_; simp only [Act.put, List.setIfInBounds_toArray, List.set_cons_succ, List.set_cons_zero])
                  | (refine Agg.gLit1 wy rfl rfl rfl HLIT.out ?_; simp only [Act.put, List.setIfInBounds_toArray, List.set_cons_succ, List.set_cons_zero])
                  | (refine Agg.append2 tiW (.tmp 109) (.tmp 111) rfl rfl (w.heap.size + 1 + 1) (v := .slice cx5 Q.length cc5) rfl HCX.out rfl HSX.out HWONE.out (by unfold maxLen; omega) (by omega) hlw (fun v2 w4 hC4 hg4 hwh => ?_); obtain ⟨v2x, v2c, rfl, _, _⟩ := (ownSl hC4).shape; simp only [Act.put, List.setIfInBounds_toArray, List.set_cons_succ, List.set_cons_zero])
                  | (refine Agg.gStoreCell 1 (.slice v2x (Q.length + 1 : Nat) v2c) (blk_row HBX.out hg4 HNE.out) rfl rfl rfl rfl rfl (by kernel_rfl) rfl (by simp) rfl (fun w13 hb13 hg13 => ?_)))
                simp only [spliced, List.take_succ_cons, List.take_zero, List.drop_succ_cons, List.drop_zero, List.length_cons, List.length_nil, List.cons_append, List.nil_append] at hb13
                have hC5 := hC4.kept hg13 (own_apart hC4 (blk_row HBX.out hg4 HNE.out) (by decide))
                have hP5 := (HPX.out.kept hg4 (elem_apart HPX.out HCX.out bWne)).kept hg13 (own_apart (HPX.out.kept hg4 (elem_apart HPX.out HCX.out bWne)) (blk_row HBX.out hg4 HNE.out) (by decide))
                have hbb4 := grown_below hg4 hlw (own_block HCX.out)
                have hbb := hbb4.trans (grown_below hg13 (Nat.le_trans hlw hg4.size) (fun j e => by cases e; exact hdb))
                have h1n := blk_keepB (H1e.out.keep hbX) hbb (by omega)
                have h2n := blk_keepB (H2e.out.keep hbX) hbb (by omega)
                have hbN := (HB.out.trans (hbX.mono HB.out.size)).trans (hbb.mono (by omega))
                rw [HFL.out] at hC5
                have hdn : DskA (w.heap.size + 1 + 1) w13 db ⟨HP5, Q ++ [(p.page, putPg p zeroB)], -1, false⟩ := ⟨_, _, hdb, hb13, hP5, by show w13.ownsRow _ _ _ _ (Q ++ [(p.page, putPg p zeroB)]).length _; rw [List.length_append]; exact hC5⟩
                have HDN := Lib.hid hdn
                clear hC5 hP5 hbb hbb4 hdn hb13 hg13 hC4 hg4 HNE HSX HPX HBX HCX HFL HLIT HWE d1
                go_wp2_with fail
                exact ⟨⟨k + 1, by omega, by go_num, h1n, h2n, by rw [HST3.out]; exact HDN.out, hbN⟩, by simp [intOf]; omega⟩
              · have h20i : ¬ (k : Int) < 20 := by omega
                have HST3 : Hid (cacheTo x (k + 1) = Q) := Lib.hid (by rw [HST.out, if_neg h20])
                clear h20
                go_wp2_with fail
                exact ⟨⟨k + 1, by omega, by go_num, H11.out, H21.out, by rw [HST3.out]; exact HDX.out, HB.out⟩, by simp [intOf]; omega⟩
            · obtain rfl : k = x.cache.length := by omega
              have hC20 := HLX.out x.cache.length
              clear HCV HC0 HLX
              obtain ⟨HC5, hhc⟩ : ∃ q, cacheTo x x.cache.length = q := ⟨_, rfl⟩
              have HCP := Lib.hid hhc
              rw [hhc] at HD
              clear hhc
              obtain ⟨p5, c5, hdb, hblk, hpr, hcr⟩ := HD.out
              dsimp only at hblk hpr hcr
              obtain ⟨px5, pc5, rfl, _, _⟩ := (ownSl hpr).shape
              obtain ⟨cx5, cc5, rfl, _, _⟩ := (ownSl hcr).shape
              have hd29 : Hid (⟨HP5, HC5, x.fuse, x.off⟩ = diskD x) := Lib.hid (by rw [← HHP.out, ← HCP.out]; rfl)
              go_upto_region 29 with (fail)
              refine Agg.heldBegin (S := fun z => Blk z w.heap.size 38 [.int .i64 x.n, .slice fx x.files.length fc, .slice hx1 x.held.length hc1, .slice cx x.cache.length cc, .int .i64 x.fuse, .bool x.off]) 8 (by kernel_rfl) rfl ?_
              have hb0 : Below wA.heap.size wA wA.drew := bel_drew (Below.refl _ _)
              generalize wA.drew = z0 at hb0 ⊢
              have HA := Lib.hid (H1.out.keep hb0)
              have H20 := Lib.hid (H2.out.keep hb0)
              have HDB := Lib.hid (hblk.keep hb0)
              have HPR := Lib.hid (own_keep hpr hb0)
              have HCR := Lib.hid (own_keep hcr hb0)
              have HB0 := Lib.hid (HB.out.trans (hb0.mono HB.out.size))
              have hne1 : w.heap.size ≠ db := by omega
              clear hblk hpr hcr hb0 H1 H2 HD HB
              refine Agg.heldTake (i := 0) (by decide +kernel) rfl rfl rfl (fun z _ => Agg.run_fa fo_FDisk_4 rfl (b := w.heap.size) (f := 0) rfl) HA.out ?_
              refine Agg.heldTake (i := 1) (by decide +kernel) rfl rfl rfl (v := .int .i64 x.fuse) (fun z hz => by exact Agg.run_ld (t := 3) (by decide +kernel) rfl rfl (hz.cell 4)) HA.out ?_
              refine Agg.heldTake (i := 2) (by decide +kernel) rfl rfl rfl (fun z _ => Agg.run_fa fo_FDisk_5 rfl (b := w.heap.size) (f := 0) rfl) HA.out ?_
              refine Agg.heldTake (i := 3) (by decide +kernel) rfl rfl rfl (v := .bool x.off) (fun z hz => by exact Agg.run_ld (t := 4) (by decide +kernel) rfl rfl (hz.cell 5)) HA.out ?_
              refine Agg.heldTake (i := 4) (by decide +kernel) rfl rfl rfl (fun z _ => Agg.run_fa fo_fo_Dev_2 rfl (b := db) (f := 0) rfl) HA.out ?_
              simp only [List.set_cons_succ, List.set_cons_zero]
              refine Agg.heldSt (.int .i64 x.fuse) [.int .i64 x.fuse] HDB.out rfl (by kernel_rfl) (by simp) (by simp [Value.oneCell']) (i := 5) (by decide +kernel) rfl rfl rfl rfl rfl rfl (fun z1 hc1 hg1 => ⟨HA.out.grown hg1 hne1, ?_⟩)
              have HA1 := Lib.hid (HA.out.grown hg1 hne1)
              refine Agg.heldTake (i := 6) (by decide +kernel) rfl rfl rfl (fun z _ => Agg.run_fa fo_fo_Dev_3 rfl (b := db) (f := 0) rfl) HA1.out ?_
              refine Agg.heldSt (.bool x.off) [.bool x.off] hc1 rfl (by kernel_rfl) (by simp [spliced]) (by simp [Value.oneCell']) (i := 7) (by decide +kernel) rfl rfl rfl rfl rfl rfl (fun z2 hc2 hg2 => ⟨HA1.out.grown hg2 hne1, ?_⟩)
              refine Agg.heldDone (by decide +kernel) ?_
              simp only [List.set_cons_succ, List.set_cons_zero]
              simp only [spliced, List.take_succ_cons, List.take_zero, List.drop_succ_cons, List.drop_zero, List.length_cons, List.length_nil, List.cons_append, List.nil_append] at hc2
              have hgt := grown_trans hg1 hg2
              have hp2 := HPR.out.kept hgt (own_apart HPR.out HDB.out (by decide))
              have hcc2 := HCR.out.kept hgt (own_apart HCR.out HDB.out (by decide))
              have h22 := H20.out.far' hgt (by omega)
              have hb2 := HB0.out.trans (grown_below hgt HB0.out.size (fun j e => by cases e; omega))
              clear hg1 hg2 hgt hc1 HA HA1 H20 HDB HPR HCR HB0
              go_wp2_with (first
                | (refine Agg.gLoadB 4 hc2 rfl rfl rfl rfl (by decide +kernel) ?_; simp only [Act.put, List.setIfInBounds_toArray, List.set_cons_succ, List.set_cons_zero])
                | (refine Agg.gStoreB 4 [.slice px5 HP5.length pc5, .slice cx5 HC5.length cc5, .int .i64 x.fuse, .bool x.off] h22 rfl rfl rfl rfl rfl (by decide +kernel) rfl rfl (by simp [Value.oneCell']) (fun w14 hb14 hg14 => ?_)))
              refine bodyPost_ret (results_row2 (m := 4) rfl hb14 rfl (by decide +kernel) rfl) rfl ⟨_, by rw [HSV.out]; rfl, ?_, ?_⟩
              · rw [← hd29.out]
                exact ⟨_, _, rfl, own_base (hp2.kept hg14 (own_off hp2 (by omega))) (by omega), own_base (hcc2.kept hg14 (own_off hcc2 (by omega))) (by omega)⟩
              · exact hb2.trans (grown_below hg14 hb2.size (fun j e => by cases e; omega))
end Go.Proofs.Ytgfmpkcgkjpgnaa
