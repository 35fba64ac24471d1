/-
  DEVICES: a device that is told.
-/
import Derived.Test.YtapdigcpaebjiaaMake
namespace Dv
open Go Go.RowKit Agg Pg
/-- Fills in memory -/
abbrev Fls (w : World) (v : Value) (l : List Fl) : Prop := SlR w v 6 l.length (l.flatMap flC)
/-- a device that is told -/
structure LaidD where
  n : Int
  fills : List Fl
  cache : List Fl
  fuse : Int
  off : Bool
def laidC (x : LaidD) (fv cv : Value) : List Value := [.int .i64 x.n, fv, cv, .int .i64 x.fuse, .bool x.off]
def laidN (x : LaidD) : Nat := (min (max x.n 0) 257).toNat
def layFill (n : Nat) (P : List (List Sec)) (f : Fl) : List (List Sec) := if thereB n f.page = true then P.set f.page.toNat (fillB f) else P
def laidP (x : LaidD) (k : Nat) : List (List Sec) := ((x.fills.take k).take 40).foldl (layFill (laidN x)) (List.replicate (laidN x) zeroB)
def flW (f : Fl) : Int × List Sec := (f.page, fillB f)
def laidL (x : LaidD) (k : Nat) : List (Int × List Sec) := ((x.cache.take k).take 40).map flW
def laidD (x : LaidD) : Dev := ⟨laidP x x.fills.length, laidL x x.cache.length, x.fuse, x.off⟩
theorem layFill_length (n : Nat) (P : List (List Sec)) (f : Fl) : (layFill n P f).length = P.length := by unfold layFill; split <;> simp
theorem layFill_bok {n : Nat} {P : List (List Sec)} (hP : ∀ b ∈ P, BOk b) {f : Fl} (hf : f.Ok) : ∀ b ∈ layFill n P f, BOk b := by
  unfold layFill
  split
  · exact set_bok hP _ (fillB_bok hf)
  · exact hP
theorem lay_ok (n : Nat) (l : List Fl) (hl : ∀ f ∈ l, f.Ok) (P : List (List Sec)) (hP : ∀ b ∈ P, BOk b) : (l.foldl (layFill n) P).length = P.length ∧ ∀ b ∈ l.foldl (layFill n) P, BOk b := by
  induction l generalizing P with
  | nil => exact ⟨rfl, hP⟩
  | cons f r ih =>
    rw [List.foldl_cons]
    have := ih (fun g hg => hl g (by simp [hg])) (layFill n P f) (layFill_bok hP (hl f (by simp)))
    exact ⟨by rw [this.1, layFill_length], this.2⟩
theorem laidP_ok (x : LaidD) (hx : ∀ f ∈ x.fills, f.Ok) (k : Nat) : (laidP x k).length = laidN x ∧ ∀ b ∈ laidP x k, BOk b := by
  have := lay_ok (laidN x) ((x.fills.take k).take 40) (fun f hf => hx f (List.mem_of_mem_take (List.mem_of_mem_take hf))) (List.replicate (laidN x) zeroB) (fun b hb => by rw [List.eq_of_mem_replicate hb]; exact zeroB_bok)
  rwa [List.length_replicate] at this
theorem laidP_succ (x : LaidD) (k : Nat) (h : k < x.fills.length) : laidP x (k + 1) = if k < 40 then layFill (laidN x) (laidP x k) x.fills[k] else laidP x k := by
  unfold laidP
  by_cases hk : k < 40
  · rw [if_pos hk, List.take_of_length_le (by rw [List.length_take]; omega), List.take_of_length_le (l := x.fills.take k) (by rw [List.length_take]; omega), List.take_succ_eq_append_getElem h, List.foldl_append]; rfl
  · rw [if_neg hk, List.take_take, List.take_take, Nat.min_eq_left (by omega), Nat.min_eq_left (by omega)]
theorem laidL_succ (x : LaidD) (k : Nat) (h : k < x.cache.length) : laidL x (k + 1) = if k < 40 then laidL x k ++ [flW x.cache[k]] else laidL x k := by
  unfold laidL
  by_cases hk : k < 40
  · rw [if_pos hk, List.take_of_length_le (by rw [List.length_take]; omega), List.take_of_length_le (l := x.cache.take k) (by rw [List.length_take]; omega), List.take_succ_eq_append_getElem h, List.map_append]; rfl
  · rw [if_neg hk, List.take_take, List.take_take, Nat.min_eq_left (by omega), Nat.min_eq_left (by omega)]
theorem laidL_len (x : LaidD) (k : Nat) : (laidL x k).length ≤ 40 := by unfold laidL; rw [List.length_map, List.length_take]; omega
theorem laidL_bok (x : LaidD) (hx : ∀ f ∈ x.cache, f.Ok) (k : Nat) : ∀ b ∈ laidL x k, BOk b.2 := by
  intro b hb
  obtain ⟨f, hf, rfl⟩ := List.mem_map.1 hb
  exact fillB_bok (hx f (List.mem_of_mem_take (List.mem_of_mem_take hf)))
theorem laidN_le (x : LaidD) : laidN x ≤ 257 := by unfold laidN; omega
theorem laidD_ok (x : LaidD) (h1 : ∀ f ∈ x.fills, f.Ok) (h2 : ∀ f ∈ x.cache, f.Ok) : DOk (laidD x) := ⟨(laidP_ok x h1 _).2, laidL_bok x h2 _⟩
theorem flC_one (f : Fl) : ∀ u ∈ flC f, u.oneCell' = true := by
  intro u hu
  rcases List.mem_cons.1 hu with rfl | h
  · rfl
  · rcases List.mem_append.1 h with h | h
    · obtain ⟨s, _, rfl⟩ := List.mem_map.1 h; rfl
    · rw [List.mem_singleton.1 h]; rfl
def fl0 : List Value := [.int .i64 0, .int .u64 0, .int .u64 0, .int .u64 0, .int .u64 0, .int .u8 0]
end Dv
namespace Go.Proofs.Ytapdigcpaebjiaa
open Go.ChangeShapes Go.WideShapes Go.ChangeAt Go.RowKit Agg Pg Dv

theorem fo_fo_La_0 : Agg.fieldOff Try.prog 24 0 = some 0 := by kernel_rfl
theorem fo_fo_La_1 : Agg.fieldOff Try.prog 24 1 = some 1 := by kernel_rfl
theorem fo_fo_La_2 : Agg.fieldOff Try.prog 24 2 = some 2 := by kernel_rfl
theorem fo_fo_La_3 : Agg.fieldOff Try.prog 24 3 = some 3 := by kernel_rfl
theorem fo_fo_La_4 : Agg.fieldOff Try.prog 24 4 = some 4 := by kernel_rfl
theorem tiFl : TI Try.prog 22 28 6 48 (.agg fl0.toArray) := ⟨by kernel_rfl, by kernel_rfl, by kernel_rfl, by decide⟩
/-- pages that were made, as a device that is built -/
def MadeDev (b0 n : Nat) (f : Int) (o : Bool) (v : Value) (w : World) : Prop := ∃ b, v = .agg #[.slice (some ⟨b, 0, none⟩) n n, .slice none 0 0, .int .i64 f, .bool o] ∧ b0 ≤ b ∧ Blk w b 46 ((List.replicate n zeroB).flatMap blkC)
theorem MadeDev.stable (b0 n : Nat) (f : Int) (o : Bool) : Stable (MadeDev b0 n f o) := fun _ _ _ ⟨b, h1, h2, h3⟩ hb => ⟨b, h1, h2, h3.keep hb⟩
theorem build_dev (s : Value) (hs : ∃ b n, s = .slice (some ⟨b, 0, none⟩) n n) (f : Int) (o : Bool) (w : World) : (Instr.build 36 #[(0, s), (2, .int .i64 f), (3, .bool o)]).run Try.prog w = .ok (.agg #[s, .slice none 0 0, .int .i64 f, .bool o]) w := by
  obtain ⟨b, n, rfl⟩ := hs
  kernel_rfl
theorem bDne : 46 ≠ 36 := by decide
theorem wDne : 48 ≠ 36 := by decide
set_option maxHeartbeats 4000000 in
set_option maxRecDepth 100000 in
theorem device_any (x : LaidD) (fv cv : Value) (h1 : ∀ f ∈ x.fills, f.Ok) (h2 : ∀ f ∈ x.cache, f.Ok) (w : World) (hfv : Fls w fv x.fills) (hcv : Fls w cv x.cache) :
    Calls Try.prog 10 #[.agg (laidC x fv cv).toArray] w fun e w' => ∃ v, e = .returned v ∧ DevO w.heap.size w' v (laidD x) ∧ Below w.heap.size w w' := by
  obtain ⟨fx, fc, rfl, hfl, hfm⟩ := hfv.shape
  obtain ⟨cx, cc, rfl, hcl, hcm⟩ := hcv.shape
  unfold maxLen at hfm hcm
  have HFV := Lib.hid hfv
  have HCV := Lib.hid hcv
  have HFV0 := HFV
  have HCV0 := HCV
  have HF := Lib.hid h1
  have HC := Lib.hid h2
  have HLF : Hid (∀ f ∈ x.fills, (flC f).length = 6) := Lib.hid (fun f hf => flC_length (h1 f hf))
  have HLC : Hid (∀ f ∈ x.cache, (flC f).length = 6) := Lib.hid (fun f hf => flC_length (h2 f hf))
  clear hfv hcv h1 h2
  obtain ⟨n, hn⟩ : ∃ n, laidN x = n := ⟨_, rfl⟩
  have hn257 : n ≤ 257 := hn ▸ laidN_le x
  have HN := Lib.hid hn
  have hmx : min (max x.n 0) 257 = (n : Int) := by rw [← hn]; unfold laidN; omega
  clear hn
  have HB := Lib.hid (Below.refl w.heap.size w)
  go_enter Try.func10, Try.ntmps10
  go_upto_region 1 with (fail)
  refine Agg.wp_at fun w1 hw1 => ?_
  have hb : Below w.heap.size w w1 := by rw [hw1.out]; repeat (first | exact Below.refl _ _ | refine Agg.bel_drew ?_ | refine Agg.bel_alloc ?_ _)
  replace HB := Lib.hid (HB.out.trans (hb.mono HB.out.size))
  replace HFV := Lib.hid (HFV.out.keep hb)
  replace HCV := Lib.hid (HCV.out.keep hb)
  clear hb
  have H1 : Hid (Blk w1 w.heap.size 24 (laidC x (.slice fx x.fills.length fc) (.slice cx x.cache.length cc))) := by show Blk _ _ _ _; rw [hw1.out]; exact (Blk.new w 24 (laidC x (.slice fx x.fills.length fc) (.slice cx x.cache.length cc)).toArray).al _
  have H2 : Hid (Blk w1 (w.heap.size + 1) 36 [.slice none 0 0, .slice none 0 0, .int .i64 0, .bool false]) := by show Blk _ _ _ _; rw [hw1.out]; exact Blk.newAt (w.alloc _) 36 #[.slice none 0 0, .slice none 0 0, .int .i64 0, .bool false] _ (by simp)
  clear hw1
  have H1 : Hid (Blk w1 w.heap.size 24 [.int .i64 x.n, .slice fx x.fills.length fc, .slice cx x.cache.length cc, .int .i64 x.fuse, .bool x.off]) := H1
  have xH1_0 := H1.out.cell 0
  have xH1_1 := H1.out.cell 1
  have xH1_2 := H1.out.cell 2
  have xH1_3 := H1.out.cell 3
  have xH1_4 := H1.out.cell 4
  have lH1 := H1.out.lt
  simp only [List.getElem?_cons_zero, List.getElem?_cons_succ] at xH1_0 xH1_1 xH1_2 xH1_3 xH1_4
  go_upto_region 2 with (first
    | (refine Agg.max2 _ _ _ (max x.n 0) rfl rfl rfl rfl rfl ?_; simp only [Act.put, List.setIfInBounds_toArray, List.set_cons_succ, List.set_cons_zero])
    | (refine Agg.min2 _ _ _ (n : Int) rfl rfl rfl rfl hmx ?_; simp only [Act.put, List.setIfInBounds_toArray, List.set_cons_succ, List.set_cons_zero]))
  have HB2s : Hid (w.heap.size + 1 < w1.heap.size) := Lib.hid H2.out.lt
  clear xH1_0 xH1_1 xH1_2 xH1_3 xH1_4 lH1
  refine Agg.chainR 8 (by kernel_rfl) (by kernel_rfl) ?_
  simp only [List.take_succ_cons, List.take_zero, List.drop_succ_cons, List.drop_zero]
  refine Agg.chMove rfl rfl rfl rfl ?_
  refine Agg.chMake tiBl n rfl rfl (by omega) (by unfold maxLen; omega) rfl rfl rfl rfl rfl ?_
  refine Agg.chFA (by first | exact fo_fo_Dev_3 | exact fo_fo_Op_3 | exact fo_fo_La_3) rfl rfl rfl rfl ?_
  refine Agg.chLoadB H1.out (by decide +kernel) rfl rfl (by rfl) rfl rfl ?_
  refine Agg.chFA fo_fo_La_4 rfl rfl rfl rfl ?_
  refine Agg.chLoadB H1.out (by decide +kernel) rfl rfl (by rfl) rfl rfl ?_
  refine Agg.chBuildO3 1 (MadeDev.stable w1.heap.size n x.fuse x.off) (fun u => .agg #[u, .slice none 0 0, .int .i64 x.fuse, .bool x.off]) (fun u w w' ⟨b, h1, h2, h3⟩ => ⟨build_dev u ⟨b, n, h1⟩ _ _ w', ⟨b, by rw [h1], h2, by rw [made_pages] at h3; exact h3⟩⟩) rfl rfl rfl rfl rfl rfl rfl rfl ?_
  refine Agg.chAlloc #[.slice none 0 0, .slice none 0 0, .int .i64 0, .bool false] rfl (by kernel_rfl) rfl rfl ?_
  refine Agg.chEnd ?_
  intro vs w2 hb hf
  simp only [List.reverse, List.reverseAux, Agg.Facts] at hf
  obtain ⟨_, ⟨pb, hv6, hpb1, hpb2⟩, ⟨db, hv7, hdb1, hdb2⟩, _⟩ := hf
  simp only [List.reverse, List.reverseAux, Agg.fill, List.set_cons_succ, List.set_cons_zero, hv6, hv7]
  have hB2 := HB.out.trans (hb.mono HB.out.size)
  have H1a := H1.out.keep hb
  have H2a := H2.out.keep hb
  have hpd : pb ≠ db := blk_ne hpb2 hdb2 bDne
  refine Agg.tStore 4 (cs := [.slice (some ⟨pb, 0, none⟩) n n, .slice none 0 0, .int .i64 x.fuse, .bool x.off]) hdb2 rfl rfl rfl rfl rfl (by decide +kernel) rfl rfl (by simp [Value.oneCell']) (fun w16 hb16 hg16 => ?_)
  refine Agg.wpNil ?_
  obtain ⟨B, hB⟩ : ∃ B, w1.heap.size = B := ⟨_, rfl⟩
  rw [hB] at hpb1 hdb1 HB2s
  have hBw : B ≤ w16.heap.size := by rw [← hB]; exact Nat.le_trans hb.size hg16.size
  have hwB := HB2s.out
  have hp16 := hpb2.far' hg16 hpd
  have H1b := H1a.far' hg16 (by omega)
  have H2b := H2a.far' hg16 (by omega)
  have hB3 := hB2.trans (grown_below hg16 hB2.size (fun j hj => by cases hj; omega))
  have HPD := Lib.hid hpd
  clear hv6 hv7 hpb2 hdb2 H1 H2 H1a H2a hB2 hg16 hb hB HB HB2s hpd
  have HPB := Lib.hid hpb1
  have HDB := Lib.hid hdb1
  have H1 := Lib.hid H1b
  have H2 := Lib.hid H2b
  have HP := Lib.hid hp16
  have HD := Lib.hid hb16
  have HB := Lib.hid hB3
  clear H1b H2b hp16 hb16 hB3 hpb1 hdb1
  clear HFV HCV
  generalize vs (0 + 1) = v14
  simp only [Nat.zero_add]
  have hfln : (x.fills.length : Int) ≤ 9223372036854775807 := by omega
  have hcln : (x.cache.length : Int) ≤ 9223372036854775807 := by omega
  have xH1_0 := H1.out.cell 0
  have xH1_1 := H1.out.cell 1
  have xH1_2 := H1.out.cell 2
  have xH1_3 := H1.out.cell 3
  have xH1_4 := H1.out.cell 4
  have lH1 := H1.out.lt
  simp only [List.getElem?_cons_zero, List.getElem?_cons_succ] at xH1_0 xH1_1 xH1_2 xH1_3 xH1_4
  go_upto_region 4 with (fail)
  clear xH1_0 xH1_1 xH1_2 xH1_3 xH1_4 lH1
  go_loopw [23, 6] (fun i _ wr => ∃ k : Nat, k ≤ x.fills.length ∧ i = .int .i64 k ∧ Below w.heap.size w wr ∧ B ≤ wr.heap.size ∧ Blk wr w.heap.size 24 [.int .i64 x.n, .slice fx x.fills.length fc, .slice cx x.cache.length cc, .int .i64 x.fuse, .bool x.off] ∧ Blk wr (w.heap.size + 1) 36 [.slice none 0 0, .slice none 0 0, .int .i64 0, .bool false] ∧ Blk wr db 36 [.slice (some ⟨pb, 0, none⟩) n n, .slice none 0 0, .int .i64 x.fuse, .bool x.off] ∧ Blk wr pb 46 ((laidP x k).flatMap blkC)) (fun i _ _ => x.fills.length - (intOf i).toNat)
  case atStart => exact ⟨0, by omega, rfl, HB.out, hBw, H1.out, H2.out, HD.out, by simpa [laidP, HN.out] using HP.out⟩
  case round =>
    obtain ⟨k, hk, rfl, hb, hbw, h1, h2, h3, h4⟩ := hrel
    obtain ⟨wA, hwA⟩ : ∃ x, x = wr := ⟨_, rfl⟩
    subst hwA
    replace HB := Lib.hid hb
    have HFV := Lib.hid (SlR.keep HFV0.out hb)
    replace H1 := Lib.hid h1
    replace H2 := Lib.hid h2
    replace HD := Lib.hid h3
    replace HP := Lib.hid h4
    clear hb h1 h2 h3 h4 hBw
    by_cases hlt : k < x.fills.length
    · obtain ⟨b2, o2, cap2, hve, _, _, _, _⟩ := SlR.pos HFV.out (by decide) (by omega)
      simp only [Value.slice.injEq, true_and] at hve
      obtain ⟨rfl, rfl⟩ := hve
      have hcs := flat_at flC 6 (by decide) HFV.out HLF.out hlt
      have h6 := HLF.out _ (List.getElem_mem hlt)
      have h1 := flC_one x.fills[k]
      have HFO := Lib.hid (HF.out _ (List.getElem_mem hlt))
      have HST := Lib.hid (laidP_succ x k hlt)
      have HSO := Lib.hid (laidP_ok x HF.out k)
      rw [HN.out] at HST HSO
      generalize x.fills[k] = f at *
      generalize laidP x k = Q at *
      go_upto_region 6 with (first
        | (refine Agg.gLoad 6 (flC f) rfl rfl rfl (by decide +kernel) h6 hcs ?_; simp only [Act.put, List.setIfInBounds_toArray, List.set_cons_succ, List.set_cons_zero])
        | (refine Agg.allocRow 28 fl0.toArray rfl rfl (by kernel_rfl) ?_; simp only [Act.put, List.setIfInBounds_toArray, List.set_cons_succ, List.set_cons_zero])
        | (refine Agg.gStoreNew 6 (flC f) rfl rfl rfl rfl rfl rfl (by decide +kernel) h6 rfl h1 ?_; simp only [Act.put]))
      have HBX := Lib.hid (Blk.new wA 28 (flC f).toArray)
      have hbA : Below wA.heap.size wA (wA.alloc (.cells (flC f).toArray 28)) := (Below.refl _ _).alloc (Nat.le_refl _) _
      have HBB := Lib.hid (HB.out.trans (hbA.mono HB.out.size))
      have H1B := Lib.hid (H1.out.keep hbA)
      have H2B := Lib.hid (H2.out.keep hbA)
      have HDX := Lib.hid (HD.out.keep hbA)
      have HPX := Lib.hid (HP.out.keep hbA)
      have HBW : Hid (B ≤ (wA.alloc (.cells (flC f).toArray 28)).heap.size) := Lib.hid (Nat.le_trans hbw hbA.size)
      have HPL := Lib.hid HP.out.lt
      have H6 := Lib.hid h6
      refine Agg.wp_at fun wB hwB => ?_
      rw [← hwB.out] at HBX H1B H2B HDX HPX HBB HBW
      clear hwB hcs h1 h6 hbA HB H1 H2 HD HP HFV hbw
      have e0 := HBX.out.cell 0
      simp only [flC, List.getElem?_cons_zero] at e0
      by_cases h40 : k < 40
      · have h40i : (k : Int) < 40 := by omega
        by_cases hp0 : 0 ≤ f.page
        · have hp0g : f.page ≥ 0 := hp0
          by_cases hpn : f.page < n
          · have HLF2 : Hid (laidP x (k + 1) = Q.set f.page.toNat (fillB f)) := Lib.hid (by rw [HST.out, if_pos h40, layFill, if_pos (by simp [thereB, hp0, hpn])])
            have hin : f.page.toNat < Q.length := by rw [HSO.out.1]; omega
            have hset := pgs_put Q HSO.out.2 f.page.toNat hin (fillB f) (fillB_bok HFO.out) []
            simp only [List.append_nil] at hset
            have hfit : f.page.toNat * 132 + 132 ≤ (Q.flatMap blkC).length := by
              rw [flat_len blkC 132 _ (fun b hb => bok_cells (HSO.out.2 b hb))]
              have : (f.page.toNat + 1) * 132 ≤ Q.length * 132 := Nat.mul_le_mul_right _ hin
              omega
            have hm := HPX.out
            go_upto_region 7 with (fail)
            refine Agg.chainR 7 (by kernel_rfl) (by kernel_rfl) ?_
            simp only [List.take_succ_cons, List.take_zero, List.drop_succ_cons, List.drop_zero]
            refine Agg.chFA (by first | exact fo_fo_Dev_0 | exact fo_fo_Wr_0 | exact fo_fo_Tu_0 | exact fo_fo_Op_0 | exact fo_fo_Fl_0 | exact fo_fo_La_0) rfl rfl rfl rfl ?_
            refine Agg.chLoadB HDX.out (by decide +kernel) rfl rfl (by rfl) rfl rfl ?_
            refine Agg.chFA fo_fo_Fl_0 rfl rfl rfl rfl ?_
            refine Agg.chLoadB HBX.out (by decide +kernel) rfl rfl (by rfl) rfl rfl ?_
            refine Agg.chRowB 6 HBX.out H6.out (by decide +kernel) rfl rfl rfl rfl ?_
            refine Agg.chCall Try.func18 rfl (by kernel_rfl) rfl rfl rfl rfl (fun W hb => block_any f HFO.out W) ?_
            refine Agg.chIA tiBl (by omega) (by omega) rfl rfl rfl rfl rfl ?_
            refine Agg.chEnd ?_
            intro vs w41 hb hf
            simp only [List.reverse, List.reverseAux, Agg.Facts] at hf
            obtain _ := hf
            simp only [List.reverse, List.reverseAux, Agg.fill, List.set_cons_succ, List.set_cons_zero]
            simp only [Nat.zero_add]
            refine Agg.gStoreMid 132 (f.page.toNat * 132) (blkC (fillB f)) (hm.keep hb) rfl rfl rfl rfl rfl (by decide +kernel) (bok_cells (fillB_bok HFO.out)) hfit (blkC_one _) (fun w26 hb26 hg26 => ?_)
            rw [hset] at hb26
            have hbs := HPL.out
            have hpb2 := HPB.out
            have hbB := HBB.out.trans (hb.mono HBB.out.size)
            have h1c := (H1B.out.keep hb).far' hg26 (by omega)
            have h2c := (H2B.out.keep hb).far' hg26 (by omega)
            have hdc := (HDX.out.keep hb).far' hg26 (Ne.symm HPD.out)
            have hbC := hbB.trans (grown_below hg26 hbB.size (fun j hj => by cases hj; omega))
            have hbw2 := Nat.le_trans HBW.out (Nat.le_trans hb.size hg26.size)
            refine Agg.wpNil ?_
            clear hset hfit hm hg26 hb HBB H1B H2B HDX HPX HBX
            go_wp2_with fail
            go_roundw
            case rel => exact ⟨k + 1, by omega, by go_num, hbC, hbw2, h1c, h2c, hdc, by rw [HLF2.out]; exact hb26⟩
            case measure => simp [intOf]; omega
          · have hpng : ¬ f.page < n := hpn
            have HLF2 : Hid (laidP x (k + 1) = Q) := Lib.hid (by rw [HST.out, if_pos h40, layFill, if_neg (by simp [thereB, hpn])])
            go_wp2_with fail
            go_roundw
            case rel => exact ⟨k + 1, by omega, by go_num, HBB.out, HBW.out, H1B.out, H2B.out, HDX.out, by rw [HLF2.out]; exact HPX.out⟩
            case measure => simp [intOf]; omega
        · have hp0g : ¬ f.page ≥ 0 := hp0
          have HLF2 : Hid (laidP x (k + 1) = Q) := Lib.hid (by rw [HST.out, if_pos h40, layFill, if_neg (by simp [thereB, hp0])])
          go_wp2_with fail
          go_roundw
          case rel => exact ⟨k + 1, by omega, by go_num, HBB.out, HBW.out, H1B.out, H2B.out, HDX.out, by rw [HLF2.out]; exact HPX.out⟩
          case measure => simp [intOf]; omega
      · have h40i : ¬ (k : Int) < 40 := by omega
        have HLF2 : Hid (laidP x (k + 1) = Q) := Lib.hid (by rw [HST.out, if_neg h40])
        go_wp2_with fail
        go_roundw
        case rel => exact ⟨k + 1, by omega, by go_num, HBB.out, HBW.out, H1B.out, H2B.out, HDX.out, by rw [HLF2.out]; exact HPX.out⟩
        case measure => simp [intOf]; omega
    · obtain rfl : k = x.fills.length := by omega
      have hbw3 := hbw
      clear HFV
      have xH1_0 := H1.out.cell 0
      have xH1_1 := H1.out.cell 1
      have xH1_2 := H1.out.cell 2
      have xH1_3 := H1.out.cell 3
      have xH1_4 := H1.out.cell 4
      have lH1 := H1.out.lt
      simp only [List.getElem?_cons_zero, List.getElem?_cons_succ] at xH1_0 xH1_1 xH1_2 xH1_3 xH1_4
      go_upto_region 10 with (fail)
      clear xH1_0 xH1_1 xH1_2 xH1_3 xH1_4 lH1
      go_loopw [52, 8] (fun i _ wr => ∃ (k : Nat) (cvv : Value), k ≤ x.cache.length ∧ i = .int .i64 k ∧ Below w.heap.size w wr ∧ B ≤ wr.heap.size ∧ Blk wr (w.heap.size + 1) 36 [.slice none 0 0, .slice none 0 0, .int .i64 0, .bool false] ∧ Blk wr db 36 [.slice (some ⟨pb, 0, none⟩) n n, cvv, .int .i64 x.fuse, .bool x.off] ∧ Blk wr pb 46 ((laidP x x.fills.length).flatMap blkC) ∧ wr.ownsRow B 48 133 cvv (laidL x k).length ((laidL x k).flatMap wrC)) (fun i _ _ => x.cache.length - (intOf i).toNat)
      case atStart => exact ⟨0, .slice none 0 0, by omega, rfl, HB.out, hbw3, H2.out, HD.out, HP.out, by simpa [laidL] using World.ownsRow_nil _ _ _ _⟩
      case round =>
        obtain ⟨k, cvv, hk, rfl, hb, hbw, h2, h3, h4, h5⟩ := hrel
        obtain ⟨wC, hwC⟩ : ∃ x, x = wr := ⟨_, rfl⟩
        subst hwC
        replace HB := Lib.hid hb
        have HCV := Lib.hid (SlR.keep HCV0.out hb)
        replace H2 := Lib.hid h2
        replace HD := Lib.hid h3
        replace HP := Lib.hid h4
        have HCO := Lib.hid h5
        clear hb h2 h3 h4 h5 hbw3 H1
        by_cases hlt : k < x.cache.length
        · obtain ⟨b2, o2, cap2, hve, _, _, _, _⟩ := SlR.pos HCV.out (by decide) (by omega)
          simp only [Value.slice.injEq, true_and] at hve
          obtain ⟨rfl, rfl⟩ := hve
          have hcs := flat_at flC 6 (by decide) HCV.out HLC.out hlt
          have h6 := HLC.out _ (List.getElem_mem hlt)
          have h1 := flC_one x.cache[k]
          have HFO := Lib.hid (HC.out _ (List.getElem_mem hlt))
          have HST := Lib.hid (laidL_succ x k hlt)
          have HSL := Lib.hid (laidL_len x k)
          generalize x.cache[k] = f at *
          generalize laidL x k = Q at *
          go_upto_region 12 with (first
            | (refine Agg.gLoad 6 (flC f) rfl rfl rfl (by decide +kernel) h6 hcs ?_; simp only [Act.put, List.setIfInBounds_toArray, List.set_cons_succ, List.set_cons_zero])
            | (refine Agg.allocRow 28 fl0.toArray rfl rfl (by kernel_rfl) ?_; simp only [Act.put, List.setIfInBounds_toArray, List.set_cons_succ, List.set_cons_zero])
            | (refine Agg.gStoreNew 6 (flC f) rfl rfl rfl rfl rfl rfl (by decide +kernel) h6 rfl h1 ?_; simp only [Act.put]))
          have HBX := Lib.hid (Blk.new wC 28 (flC f).toArray)
          have hbA : Below wC.heap.size wC (wC.alloc (.cells (flC f).toArray 28)) := (Below.refl _ _).alloc (Nat.le_refl _) _
          have HBB := Lib.hid (HB.out.trans (hbA.mono HB.out.size))
          have H2B := Lib.hid (H2.out.keep hbA)
          have HDX := Lib.hid (HD.out.keep hbA)
          have HPX := Lib.hid (HP.out.keep hbA)
          have HCX := Lib.hid (own_keep HCO.out hbA)
          have HBW : Hid (B ≤ (wC.alloc (.cells (flC f).toArray 28)).heap.size) := Lib.hid (Nat.le_trans hbw hbA.size)
          have H6 := Lib.hid h6
          refine Agg.wp_at fun wB hwB => ?_
          rw [← hwB.out] at HBX H2B HDX HPX HBB HBW HCX
          clear hwB hcs h1 h6 hbA HB H2 HD HP HCV hbw HCO
          by_cases h40 : k < 40
          · have h40i : (k : Int) < 40 := by omega
            have HLF2 : Hid (laidL x (k + 1) = Q ++ [(f.page, fillB f)]) := Lib.hid (by rw [HST.out, if_pos h40]; rfl)
            go_upto_region 13 with (fail)
            refine Agg.chainR 8 (by kernel_rfl) (by kernel_rfl) ?_
            simp only [List.take_succ_cons, List.take_zero, List.drop_succ_cons, List.drop_zero]
            refine Agg.chFA fo_fo_Dev_1 rfl rfl rfl rfl ?_
            refine Agg.chLoadB HDX.out (by decide +kernel) rfl rfl (by rfl) rfl rfl ?_
            refine Agg.chFA fo_fo_Fl_0 rfl rfl rfl rfl ?_
            refine Agg.chLoadB HBX.out (by decide +kernel) rfl rfl (by rfl) rfl rfl ?_
            refine Agg.chRowB 6 HBX.out H6.out (by decide +kernel) rfl rfl rfl rfl ?_
            refine Agg.chCall Try.func18 rfl (by kernel_rfl) rfl rfl rfl rfl (fun W hb => block_any f HFO.out W) ?_
            refine Agg.chBuild (v := .agg (wrC (f.page, fillB f)).toArray) rfl rfl rfl rfl (fun W => build_wr f.page (fillB f) (fillB_bok HFO.out) W) ?_
            refine Agg.chBuildSlice (e := 48) (wrC (f.page, fillB f)).toArray rfl rfl rfl rfl (fun W => lit_wr f.page (fillB f) (fillB_bok HFO.out) W) ?_
            refine Agg.chEnd ?_
            intro vs w81 hb hf
            simp only [List.reverse, List.reverseAux, Agg.Facts] at hf
            obtain ⟨⟨g9, hv9, hb9, hk9⟩, _⟩ := hf
            simp only [List.reverse, List.reverseAux, Agg.fill, List.set_cons_succ, List.set_cons_zero, hv9]
            clear hv9
            have hD3 := HDX.out.keep hb
            have hP3 := HPX.out.keep hb
            have h23 := H2B.out.keep hb
            have hC3 := own_keep HCX.out hb
            have hsl : SlR w81 (.slice (some ⟨g9, 0, none⟩) 1 1) 133 1 (wrC (f.page, fillB f)) := NewSl.sl (b0 := wB.heap.size) (e := 48) ⟨g9, rfl, hb9, hk9⟩ (wrC_length _ (fillB_bok HFO.out)) (by unfold maxLen; decide)
            have hB3 := HBB.out.trans (hb.mono HBB.out.size)
            have hbw3 := Nat.le_trans HBW.out hb.size
            have HBW3 := Lib.hid hbw3
            have HB3 := Lib.hid hB3
            have HD3 := Lib.hid hD3
            have HP3 := Lib.hid hP3
            have H23 := Lib.hid h23
            clear hb9 hk9 hb hP3 h23 hB3 hD3 HBB H2B HDX HPX HCX HBX
            refine Agg.append tiW (.tmp 60) (.tmp 66) rfl rfl B (v := cvv) rfl hC3 rfl hsl (wrC_one _) (by have := HSL.out; unfold maxLen; omega) (by have := HSL.out; omega) hbw3 ?_
            intro v' w4 hC4 hg4 _
            simp only [Act.put, List.setIfInBounds_toArray, List.set_cons_succ, List.set_cons_zero]
            have hne := own_apart hC3 HD3.out wDne
            have hD4 := blk_row HD3.out hg4 hne
            have hP4 := blk_row HP3.out hg4 (own_apart hC3 HP3.out (Ne.symm bWne))
            have h24 := blk_row H23.out hg4 (own_off hC3 hwB)
            have hB4 := HB3.out.trans (grown_below hg4 HB3.out.size (fun j hj => by have := own_block hC3 j hj; omega))
            have hbw4 := Nat.le_trans hbw3 hg4.size
            obtain ⟨vx, vc, rfl, _, _⟩ := (ownSl hC4).shape
            have HC4 := Lib.hid hC4
            have HP4 := Lib.hid hP4
            have HB4 := Lib.hid hB4
            have H24 := Lib.hid h24
            have HD4 := Lib.hid hD4
            clear hsl hg4 hC3 hC4 hP4 hB4 HP3 HB3 hne HD3 H23 h24 hbw3
            go_wp2_with (refine Agg.gStoreCell 1 (.slice vx (Q.length + 1) vc) hD4 rfl rfl rfl rfl rfl (by kernel_rfl) rfl (by simp) rfl (fun w13 hb13 hg13 => ?_); clear hD4)
            refine Agg.noP ?_
            have hdbB := HDB.out
            have hP13 := HP4.out.far' hg13 HPD.out
            have h213 := H24.out.far' hg13 (by omega)
            have hC13 := HC4.out.kept hg13 (own_apart HC4.out HD4.out wDne)
            have hB13 := HB4.out.trans (grown_below hg13 HB4.out.size (fun j hj => by cases hj; omega))
            have hbw13 := Nat.le_trans hbw4 hg13.size
            have h13 : spliced [Value.slice (some ⟨pb, 0, none⟩) n n, cvv, Value.int IntKind.i64 x.fuse, Value.bool x.off] 1 [Value.slice vx (Q.length + 1) vc] = [Value.slice (some ⟨pb, 0, none⟩) n n, Value.slice vx (Q.length + 1) vc, Value.int IntKind.i64 x.fuse, Value.bool x.off] := by simp [spliced]
            rw [h13] at hb13
            clear hg13 HP4 HC4 HB4 HD4 H24 h13 hbw4 HBW3
            go_wp2_with fail
            go_roundw
            case rel => exact ⟨k + 1, _, by omega, by go_num, hB13, hbw13, h213, hb13, hP13, by rw [HLF2.out, List.length_append]; simpa using hC13⟩
            case measure => simp [intOf]; omega
          · have h40i : ¬ (k : Int) < 40 := by omega
            have HLF2 : Hid (laidL x (k + 1) = Q) := Lib.hid (by rw [HST.out, if_neg h40])
            go_wp2_with fail
            go_roundw
            case rel => exact ⟨k + 1, cvv, by omega, by go_num, HBB.out, HBW.out, H2B.out, HDX.out, HPX.out, by rw [HLF2.out]; exact HCX.out⟩
            case measure => simp [intOf]; omega
        · obtain rfl : k = x.cache.length := by omega
          have hd := HD.out
          have h2 := H2.out
          have hpb2 := HPB.out
          obtain ⟨vx, vc, rfl, _, _⟩ := (ownSl HCO.out).shape
          go_wp2_with (first
            | (refine Agg.gLoadB 4 hd rfl rfl rfl rfl (by decide +kernel) ?_; simp only [Act.put, List.setIfInBounds_toArray, List.set_cons_succ, List.set_cons_zero])
            | (refine Agg.gStoreB 4 [.slice (some ⟨pb, 0, none⟩) n n, .slice vx (laidL x x.cache.length).length vc, .int .i64 x.fuse, .bool x.off] h2 rfl rfl rfl rfl rfl (by decide +kernel) rfl rfl (by simp [Value.oneCell']) (fun w14 hb14 hg14 => ?_)))
          have hP5 := HP.out.far' hg14 (by omega)
          have hC5 := HCO.out.kept hg14 (own_off HCO.out hwB)
          have hbC := HB.out.trans (grown_below hg14 HB.out.size (fun j hj => by cases hj; omega))
          have hlen := (laidP_ok x HF.out x.fills.length).1
          have hxl : ((laidP x x.fills.length).flatMap blkC).length = n * 132 := by rw [flat_len blkC 132 _ (fun b hb => bok_cells ((laidP_ok x HF.out x.fills.length).2 b hb)), hlen, HN.out]
          have hO := blk_own (w := w14) (base := w.heap.size) (e := 46) (sz := 132) (g := pb) (n := n) (cap := n) (xs := (laidP x x.fills.length).flatMap blkC) (r := []) (by rw [List.append_nil]; exact hP5) (by omega) (Nat.le_refl _) (by unfold maxLen; omega) (by rw [List.append_nil]; exact hxl) hxl
          refine bodyPost_ret (results_row1 (m := 4) rfl hb14 rfl (by decide +kernel) rfl) rfl ⟨_, rfl, ⟨.slice (some ⟨pb, 0, none⟩) n n, .slice vx (laidL x x.cache.length).length vc, rfl, ?_, own_base hC5 (by omega)⟩, hbC⟩
          show w14.ownsRow w.heap.size _ 132 _ (laidP x x.fills.length).length _
          rw [hlen, HN.out]
          exact hO
end Go.Proofs.Ytapdigcpaebjiaa
