/-
  PAGES: the document's page of a block.
-/
import Derived.Test.YtjnnnnolikbjcaaRFpPgE
import Derived.Test.YtjnnnnolikbjcaaRFpPgF
section
namespace Go.Proofs.Ytjnnnnolikbjcaa
open Go.ChangeShapes Go.WideShapes Go.ChangeAt Go.RowKit Agg Pg

theorem bytesB_get (b : List Sec) (hl : Len32 b) (q r : Nat) (hq : q < b.length) (hr : r < 32) : (bytesB b)[32 * q + r]? = some ((b[q]).2[r]'(by rw [hl _ (List.getElem_mem hq)]; exact hr)) := by
  induction b generalizing q with
  | nil => simp at hq
  | cons s t ih =>
    have hs := hl s (by simp)
    have e : bytesB (s :: t) = s.2 ++ bytesB t := rfl
    rw [e]
    cases q with
    | zero =>
      rw [List.getElem?_append_left (by omega)]
      simp only [Nat.mul_zero, Nat.zero_add, List.getElem_cons_zero]
      exact List.getElem?_eq_getElem _
    | succ q =>
      rw [List.getElem?_append_right (by omega), hs, show 32 * (q + 1) + r - 32 = 32 * q + r by omega, ih (fun x hx => hl x (by simp [hx])) q (by simpa using hq)]
      rfl
theorem blk_byte {w : World} {g : Nat} {b : List Sec} (H : Blk w g 38 (blkC b)) (hb : BOk b) (k : Nat) (hk : k < 128) (h : k < (bytesB b).length) : w.cell? ⟨g, k / 32 * 33 + 1 + k % 32, none⟩ = some (.int .u8 ((bytesB b)[k].toNat : Int)) := by
  have hq : k / 32 < b.length := by rw [hb.1]; omega
  have h32 := hb.len _ (List.getElem_mem hq)
  have h1 := blkC_byte b hb.len (k / 32) hq [] (k % 32) (by omega)
  rw [List.append_nil] at h1
  have h2 := bytesB_get b hb.len (k / 32) (k % 32) hq (by omega)
  rw [show 32 * (k / 32) + k % 32 = k by omega, List.getElem?_eq_getElem h] at h2
  rw [H.cell, show k / 32 * 33 + 1 + k % 32 = k / 32 * 33 + (1 + k % 32) by omega, h1, Option.some.inj h2]
theorem bytes_cell {w : World} {g o n c : Nat} {l : List UInt8} (h : Bytes w (.slice (some ⟨g, o, none⟩) n c) l) (k : Nat) (hk : k < l.length) : w.cell? ⟨g, o + k, none⟩ = some (.int .u8 (l[k].toNat : Int)) := by
  obtain ⟨b', o', c', hve, _, _, hcp, _⟩ := SlR.pos h (by decide) (by omega)
  simp only [Value.slice.injEq, Option.some.injEq, Addr.mk.injEq, and_true] at hve
  obtain ⟨⟨rfl, rfl⟩, _⟩ := hve
  exact hcp k _ (bv_get l k hk)
theorem getD_at (l : List UInt8) (i : Nat) (h : i < l.length) : l.getD i 0 = l[i] := by rw [List.getD_eq_getElem?_getD, List.getElem?_eq_getElem h]; rfl
theorem bv_append_one (l : List UInt8) (c : UInt8) : bv (l ++ [c]) = bv l ++ [.int .u8 (c.toNat : Int)] := by rw [bv_append]; rfl
set_option maxHeartbeats 8000000 in
set_option maxRecDepth 100000 in
theorem pgrRead_any (b : List Sec) (hb : BOk b) (w : World) (k : Int) (d : List UInt8) (n : Nat) (er : Int) (hr : readR b = ((k, d), n, er)) :
    Calls Try.prog 52 #[.agg (blkC b).toArray] w fun e w' => ∃ u, e = .returned (.tuple #[.agg #[.int .i64 k, u], .int .u64 (n : Int), .int .i64 er]) ∧ Bytes w' u d ∧ Below w.heap.size w w' := by
  have HBO := Lib.hid hb
  have HRR := Lib.hid hr
  have h132 := bok_cells hb
  clear hb hr
  have HB := Lib.hid (Below.refl w.heap.size w)
  go_enter Try.func52, Try.ntmps52
  have hg0 := (Blk.new w 38 (blkC b).toArray).al (.cells #[.int .i64 0, .slice none 0 0] 92)
  go_wp2_with (refine Agg.gLoadB 132 hg0 h132 rfl rfl rfl (by decide +kernel) ?_; simp only [Act.put, List.setIfInBounds_toArray, List.set_cons_succ, List.set_cons_zero])
  clear hg0
  refine Agg.calls_at fun w1 hw1 => ?_
  have hb : Below w.heap.size w w1 := by rw [hw1.out]; repeat (first | exact Below.refl _ _ | refine Agg.bel_drew ?_ | refine Agg.bel_alloc ?_ _)
  replace HB := Lib.hid (HB.out.trans (hb.mono HB.out.size))
  clear hb
  have H1 : Hid (Blk w1 w.heap.size 38 (blkC b)) := by show Blk _ _ _ _; rw [hw1.out]; exact (Blk.new w 38 (blkC b).toArray).al _
  have H2 : Hid (Blk w1 (w.heap.size + 1) 92 [.int .i64 0, .slice none 0 0]) := by show Blk _ _ _ _; rw [hw1.out]; exact Blk.newAt (w.alloc _) 92 #[.int .i64 0, .slice none 0 0] _ (by simp)
  clear hw1
  obtain ⟨q, hq⟩ : ∃ q, stampB b = q := ⟨_, rfl⟩
  cases q
  · have hrr : readR b = ((0, []), 0, 270) := by rw [readR, if_neg (by rw [hq]; decide)]
    rw [HRR.out] at hrr
    simp only [Prod.mk.injEq] at hrr
    obtain ⟨⟨rfl, rfl⟩, rfl, rfl⟩ := hrr
    refine (rStamp_any b HBO.out w1 false hq).mono ?_
    rintro e w2 ⟨rfl, hb⟩
    replace HB := Lib.hid (HB.out.trans (hb.mono HB.out.size))
    replace H1 := Lib.hid (H1.out.keep hb)
    replace H2 := Lib.hid (H2.out.keep hb)
    clear hb
    rw [show ((if false = true then st0 b else 0 : Nat) : Int) = 0 from rfl]
    clear hq
    have hr2 := H2.out.cell 0
    have hr3 := H2.out.cell 1
    have hf2 := H2.out.frozen 0
    have hf3 := H2.out.frozen 1
    have hl2 := H2.out.lt
    simp only [List.getElem?_cons_zero, List.getElem?_cons_succ] at hr2 hr3
    go_wp2_with fail
    refine bodyPost_ret (results_row3 rfl (H2.out.set2 (.int .i64 0) (.slice none 0 0)) rfl (by decide +kernel) rfl) rfl ⟨_, rfl, SlR.nil _ _, ?_⟩
    exact (HB.out.setCell (by simp) _).setCell (by simp) _
  · have hstp := stampB_all hq
    refine (rStamp_any b HBO.out w1 true hq).mono ?_
    rintro e w3 ⟨rfl, hb⟩
    replace HB := Lib.hid (HB.out.trans (hb.mono HB.out.size))
    replace H1 := Lib.hid (H1.out.keep hb)
    replace H2 := Lib.hid (H2.out.keep hb)
    clear hb
    rw [show ((if true = true then st0 b else 0 : Nat) : Int) = (st0 b : Int) from rfl]
    go_wp2_with fail
    have HL128 : Hid ((bytesB b).length = 128) := Lib.hid (by rw [bytesB_length b HBO.out.len, HBO.out.1])
    have hpg : w.heap.size + 1 < w3.heap.size := H2.out.lt
    go_loopw [8, 7] (fun i v wr => ∃ k : Nat, k ≤ 128 ∧ i = .int .i64 k ∧ wr.ownsRow w3.heap.size 5 1 v k (bv ((bytesB b).take k)) ∧ From w3 wr) (fun i _ _ => 128 - (intOf i).toNat)
    case atStart => exact ⟨0, by omega, rfl, World.ownsRow_nil _ _ _ _, Below.refl _ _⟩
    case round =>
      obtain ⟨m, hm, rfl, ho, hb⟩ := hrel
      have HO := Lib.hid ho
      have HK : Hid (From w3 wr) := Lib.hid hb
      have H1 := Lib.hid (H1.out.keep hb)
      have hb : Below w3.heap.size w3 wr := hb
      replace HB := Lib.hid (HB.out.trans (hb.mono HB.out.size))
      have H2 := Lib.hid (H2.out.keep hb)
      obtain ⟨xa, ca, rfl, _, hmx⟩ := (ownSl ho).shape
      clear hb ho hmx
      by_cases hlt : m < 128
      · have hml : m < (bytesB b).length := by rw [HL128.out]; exact hlt
        have hc := blk_byte H1.out HBO.out m hlt hml
        have HS := Lib.hid (List.take_succ_eq_append_getElem hml)
        generalize (bytesB b)[m] = c at *
        have hob := HO.out.keep ((Below.refl _ wr).alloc (Nat.le_refl _) (.cells #[.int .u8 (c.toNat : Int)] 5))
        have hsl := sl_new wr #[.int .u8 (c.toNat : Int)] 5 1 1 rfl (by decide)
        have hsz := HK.out.size
        have hquo : Int.tdiv (m : Int) 32 = (m / 32 : Int) := by rw [Int.tdiv_eq_ediv_of_nonneg (by omega)]
        go_wp2_with (refine Agg.append2 ti25 _ _ rfl rfl w3.heap.size rfl hob rfl hsl (by simp [Value.oneCell']) (by unfold maxLen; omega) (by omega) (by simp only [World.size_alloc]; omega) ?_; intro vz wz ho3 hg3 _; simp only [Act.put, List.setIfInBounds_toArray, List.set_cons_succ, List.set_cons_zero])
        rw [← bv_append_one, ← HS.out] at ho3
        have hbw : Below w3.heap.size w3 wz := ((HK.out : Below _ _ _).alloc hsz _).trans (grown_below hg3 (by simp only [World.size_alloc]; omega) (own_block hob))
        obtain ⟨x3, c3, rfl, _, _⟩ := (ownSl ho3).shape
        go_roundw
        case rel => exact ⟨m + 1, by omega, by go_num, ho3, hbw⟩
        case measure => simp [intOf]; omega
      · obtain rfl : m = 128 := by omega
        have e128 : (bytesB b).take 128 = bytesB b := List.take_of_length_le (by rw [HL128.out]; exact Nat.le_refl _)
        rw [e128] at HO
        have hby : Bytes wr (.slice xa 128 ca) (bytesB b) := own_bytes HO.out HL128.out
        go_wp2_with fail
        by_cases hsum : Crc.sum (bytesB b) = 0#32
        · have hsum2 := hsum
          refine (rholds_any (bytesB b) _ wr hby true (by rw [HL128.out, hsum]; rfl)).mono ?_
          rintro e w21 ⟨rfl, hb⟩
          replace HB := Lib.hid (HB.out.trans (hb.mono HB.out.size))
          replace H1 := Lib.hid (H1.out.keep hb)
          replace H2 := Lib.hid (H2.out.keep hb)
          replace HO := Lib.hid (HO.out.keep hb)
          clear hb
          have hby2 : Bytes w21 (.slice xa 128 ca) (bytesB b) := own_bytes HO.out HL128.out
          obtain ⟨g, o, cap', hve, hq3, hq4, hcs, hgl⟩ := SlR.pos hby2 (by decide) (by rw [HL128.out]; decide)
          simp only [Value.slice.injEq] at hve
          obtain ⟨e1, e2, e3⟩ := hve
          subst e1; subst e3; clear e2
          have HBY : Hid (∀ wz, Below w.heap.size w wz → wz.ownsRow w21.heap.size 5 1 (.slice (some ⟨g, o, none⟩) 128 ca) 128 (bv (bytesB b)) → True) := Lib.hid (fun _ _ _ => trivial)
          clear HBY
          have hokT : formP (bytesB b) → readR b = (((((bytesB b).getD 0 0).toNat : Int), ((bytesB b).drop 4).take ((bytesB b).getD 1 0).toNat), st0 b, 0) := fun h => by
            rw [readR, if_pos hq, if_pos hsum, if_pos h]
          have hokF : ¬ formP (bytesB b) → readR b = ((0, []), 0, 7) := fun h => by
            rw [readR, if_pos hq, if_pos hsum, if_neg h]
          have HOKT := Lib.hid hokT
          have HOKF := Lib.hid hokF
          have h255 : ((bytesB b).getD 1 0).toNat < 256 := UInt8.toNat_lt _
          have h255' : ((bytesB b).getD 0 0).toNat < 256 := UInt8.toNat_lt _
          have hk0 := bytes_cell hby2 0 (by rw [HL128.out]; decide)
          have hk1 := bytes_cell hby2 1 (by rw [HL128.out]; decide)
          have hk2 := bytes_cell hby2 2 (by rw [HL128.out]; decide)
          have hk3 := bytes_cell hby2 3 (by rw [HL128.out]; decide)
          rw [← getD_at] at hk0 hk1 hk2 hk3
          have HF : Hid (∀ n1 k0 b2 b3 : Nat, n1 = ((bytesB b).getD 1 0).toNat → k0 = ((bytesB b).getD 0 0).toNat → b2 = ((bytesB b).getD 2 0).toNat → b3 = ((bytesB b).getD 3 0).toNat → formP (bytesB b) → n1 ≤ 120 ∧ 1 ≤ k0 ∧ k0 ≤ 4 ∧ b2 = 0 ∧ b3 = 0) := by
            refine Lib.hid ?_
            rintro _ _ _ _ rfl rfl rfl rfl ⟨q1, q2, q3, q4, q5, _⟩
            exact ⟨q1, q2, q3, by rw [q4]; rfl, by rw [q5]; rfl⟩
          have HF2 : Hid (∀ n1 k0 b2 b3 : Nat, n1 = ((bytesB b).getD 1 0).toNat → k0 = ((bytesB b).getD 0 0).toNat → b2 = ((bytesB b).getD 2 0).toNat → b3 = ((bytesB b).getD 3 0).toNat → n1 ≤ 120 → 1 ≤ k0 → k0 ≤ 4 → b2 = 0 → b3 = 0 → (∀ i, 4 + n1 ≤ i → i < 124 → (bytesB b).getD i 0 = 0) → formP (bytesB b)) := by
            refine Lib.hid ?_
            rintro _ _ _ _ rfl rfl rfl rfl q1 q2 q3 q4 q5 q6
            exact ⟨q1, q2, q3, UInt8.toNat_inj.1 (by rw [q4]; rfl), UInt8.toNat_inj.1 (by rw [q5]; rfl), q6⟩
          obtain ⟨n1, en1⟩ : ∃ n1, n1 = ((bytesB b).getD 1 0).toNat := ⟨_, rfl⟩
          obtain ⟨k0, ek0⟩ : ∃ k0, k0 = ((bytesB b).getD 0 0).toNat := ⟨_, rfl⟩
          obtain ⟨b2, eb2⟩ : ∃ b2, b2 = ((bytesB b).getD 2 0).toNat := ⟨_, rfl⟩
          obtain ⟨b3, eb3⟩ : ∃ b3, b3 = ((bytesB b).getD 3 0).toNat := ⟨_, rfl⟩
          replace HF := Lib.hid (HF.out n1 k0 b2 b3 en1 ek0 eb2 eb3)
          replace HF2 := Lib.hid (HF2.out n1 k0 b2 b3 en1 ek0 eb2 eb3)
          have HEQ := Lib.hid (And.intro en1 ek0)
          rw [← en1] at hk1 h255
          rw [← ek0, Nat.add_zero] at hk0
          rw [← ek0] at h255'
          rw [← eb2] at hk2
          rw [← eb3] at hk3
          clear en1 ek0 eb2 eb3 hokT hokF hsum hsum2 hby hby2 hcs hq3
          go_upto_region 12 with (fail)
          by_cases c1 : (n1 : Int) > 120
          · have hnf : ¬ formP (bytesB b) := fun h => by have := HF.out h; omega
            have hrr := HRR.out
            rw [HOKF.out hnf] at hrr
            simp only [Prod.mk.injEq] at hrr
            obtain ⟨⟨rfl, rfl⟩, rfl, rfl⟩ := hrr
            have hr2 := H2.out.cell 0
            have hr3 := H2.out.cell 1
            have hf2 := H2.out.frozen 0
            have hf3 := H2.out.frozen 1
            have hl2 := H2.out.lt
            simp only [List.getElem?_cons_zero, List.getElem?_cons_succ] at hr2 hr3
            clear hnf
            go_wp2_with fail
            refine bodyPost_ret (results_row3 rfl (H2.out.set2 (.int .i64 0) (.slice none 0 0)) rfl (by decide +kernel) rfl) rfl ⟨_, rfl, SlR.nil _ _, ?_⟩
            exact (HB.out.setCell (by simp) _).setCell (by simp) _
          · by_cases c2 : (k0 : Int) < 1
            · have hnf : ¬ formP (bytesB b) := fun h => by have := HF.out h; omega
              have hrr := HRR.out
              rw [HOKF.out hnf] at hrr
              simp only [Prod.mk.injEq] at hrr
              obtain ⟨⟨rfl, rfl⟩, rfl, rfl⟩ := hrr
              have hr2 := H2.out.cell 0
              have hr3 := H2.out.cell 1
              have hf2 := H2.out.frozen 0
              have hf3 := H2.out.frozen 1
              have hl2 := H2.out.lt
              simp only [List.getElem?_cons_zero, List.getElem?_cons_succ] at hr2 hr3
              clear hnf
              go_wp2_with fail
              refine bodyPost_ret (results_row3 rfl (H2.out.set2 (.int .i64 0) (.slice none 0 0)) rfl (by decide +kernel) rfl) rfl ⟨_, rfl, SlR.nil _ _, ?_⟩
              exact (HB.out.setCell (by simp) _).setCell (by simp) _
            · by_cases c3 : (k0 : Int) > 4
              · have hnf : ¬ formP (bytesB b) := fun h => by have := HF.out h; omega
                have hrr := HRR.out
                rw [HOKF.out hnf] at hrr
                simp only [Prod.mk.injEq] at hrr
                obtain ⟨⟨rfl, rfl⟩, rfl, rfl⟩ := hrr
                have hr2 := H2.out.cell 0
                have hr3 := H2.out.cell 1
                have hf2 := H2.out.frozen 0
                have hf3 := H2.out.frozen 1
                have hl2 := H2.out.lt
                simp only [List.getElem?_cons_zero, List.getElem?_cons_succ] at hr2 hr3
                clear hnf
                go_wp2_with fail
                refine bodyPost_ret (results_row3 rfl (H2.out.set2 (.int .i64 0) (.slice none 0 0)) rfl (by decide +kernel) rfl) rfl ⟨_, rfl, SlR.nil _ _, ?_⟩
                exact (HB.out.setCell (by simp) _).setCell (by simp) _
              · by_cases hb2 : b2 = 0
                · by_cases hb3 : b3 = 0
                  · subst hb2
                    subst hb3
                    have HN := Lib.hid (And.intro (show n1 ≤ 120 by omega) (show k0 ≤ 4 by omega))
                    have HN2 := Lib.hid (show 1 ≤ k0 by omega)
                    go_wp2_with fail
                    clear hk0 hk1 hk2 hk3
                    go_loopw [10] (fun i wr => ∃ m : Nat, 4 + n1 ≤ m ∧ m ≤ 124 ∧ i = .int .i64 m ∧ From w21 wr ∧ (∀ i, 4 + n1 ≤ i → i < m → (bytesB b).getD i 0 = 0)) (fun i _ => 124 - (intOf i).toNat)
                    case atStart => exact ⟨4 + n1, by omega, by have := HN.out; omega, by go_num, Below.refl _ _, fun i h1 h2 => by omega⟩
                    case round =>
                      obtain ⟨m, hm1, hm2, rfl, hb, hz⟩ := hrel
                      have hb : Below w21.heap.size w21 wr := hb
                      have HZ := Lib.hid hz
                      have HK2 : Hid (From w21 wr) := Lib.hid hb
                      have hb := hb
                      replace HB := Lib.hid (HB.out.trans (hb.mono HB.out.size))
                      replace H1 := Lib.hid (H1.out.keep hb)
                      replace H2 := Lib.hid (H2.out.keep hb)
                      replace HO := Lib.hid (HO.out.keep hb)
                      clear hb
                      clear hz
                      by_cases hlt : m < 124
                      · have hml : m < (bytesB b).length := by rw [HL128.out]; omega
                        have hby3 : Bytes wr (.slice (some ⟨g, o, none⟩) 128 ca) (bytesB b) := own_bytes HO.out HL128.out
                        have hc := bytes_cell hby3 m hml
                        rw [← getD_at] at hc
                        have HE : Hid (∀ c, c = ((bytesB b).getD m 0).toNat → (c = 0 ↔ (bytesB b).getD m 0 = 0)) := by
                          refine Lib.hid ?_
                          rintro _ rfl
                          exact ⟨fun h => UInt8.toNat_inj.1 (by rw [h]; rfl), fun h => by rw [h]; rfl⟩
                        obtain ⟨c, ec⟩ : ∃ c, c = ((bytesB b).getD m 0).toNat := ⟨_, rfl⟩
                        replace HE := Lib.hid (HE.out c ec)
                        rw [← ec] at hc
                        clear ec hby3
                        by_cases hc0 : c = 0
                        · subst hc0
                          have HE0 := Lib.hid (HE.out.1 rfl)
                          clear HE
                          go_wp2_with fail
                          go_roundw
                          case rel => exact ⟨m + 1, by omega, by omega, by go_num, HK2.out, fun i h1 h2 => by
                            by_cases h : i < m
                            · exact HZ.out i h1 h
                            · obtain rfl : i = m := by omega
                              exact HE0.out⟩
                          case measure => simp [intOf]; omega
                        · have hcb : ((c : Int) != 0) = true := by simp [hc0]
                          have hnf : ¬ formP (bytesB b) := fun h => hc0 (HE.out.2 (h.2.2.2.2.2 m (by have := HEQ.out.1; omega) hlt))
                          clear hc0
                          have hrr := HRR.out
                          rw [HOKF.out hnf] at hrr
                          simp only [Prod.mk.injEq] at hrr
                          obtain ⟨⟨rfl, rfl⟩, rfl, rfl⟩ := hrr
                          have hr2 := H2.out.cell 0
                          have hr3 := H2.out.cell 1
                          have hf2 := H2.out.frozen 0
                          have hf3 := H2.out.frozen 1
                          have hl2 := H2.out.lt
                          simp only [List.getElem?_cons_zero, List.getElem?_cons_succ] at hr2 hr3
                          clear hnf
                          go_wp2_with fail
                          refine bodyPost_ret (results_row3 rfl (H2.out.set2 (.int .i64 0) (.slice none 0 0)) rfl (by decide +kernel) rfl) rfl ⟨_, rfl, SlR.nil _ _, ?_⟩
                          exact (HB.out.setCell (by simp) _).setCell (by simp) _
                      · obtain rfl : m = 124 := by omega
                        have hf : formP (bytesB b) := HF2.out HN.out.1 HN2.out HN.out.2 (by first | trivial | rfl) (by first | trivial | rfl) HZ.out
                        have hrr := HRR.out
                        rw [HOKT.out hf, ← HEQ.out.1, ← HEQ.out.2] at hrr
                        simp only [Prod.mk.injEq] at hrr
                        obtain ⟨⟨rfl, rfl⟩, rfl, rfl⟩ := hrr
                        have hby3 : Bytes wr (.slice (some ⟨g, o, none⟩) 128 ca) (bytesB b) := own_bytes HO.out HL128.out
                        have hc := bytes_cell hby3 0 (by rw [HL128.out]; decide)
                        rw [← getD_at, ← HEQ.out.2] at hc
                        rw [Nat.add_zero] at hc
                        clear hby3 hf hm1 hm2 hlt
                        go_upto_region 19 with (fail)
                        have hn120 := HN.out.1
                        have hc' : wr.cell? ⟨g, o + (0 : Int).toNat * 1, none⟩ = some (.int .u8 (k0 : Int)) := hc
                        have h2l := H2.out.lt
                        refine Agg.heldBegin (S := fun z => z.cell? ⟨g, o + (0 : Int).toNat * 1, none⟩ = some (.int .u8 (k0 : Int))) 13 (by kernel_rfl) rfl ?_
                        have hb0 : Below wr.heap.size wr wr.drew := bel_drew (Below.refl _ _)
                        have hc0 := cell_keep hb0 hc'
                        generalize wr.drew = z0 at hb0 hc0 ⊢
                        clear hc hc'
                        have hb := hb0
                        replace HB := Lib.hid (HB.out.trans (hb.mono HB.out.size))
                        replace H1 := Lib.hid (H1.out.keep hb)
                        replace H2 := Lib.hid (H2.out.keep hb)
                        replace HO := Lib.hid (HO.out.keep hb)
                        clear hb
                        have hgne : g ≠ w.heap.size + 1 := by
                          have h3 := (HO.out.lt g rfl).1
                          omega
                        refine Agg.heldTake (i := 0) (by decide +kernel) rfl rfl rfl (v := .slice (some ⟨g, o, none⟩) 128 ca) (fun z _ => Agg.run_move rfl rfl) hc0 ?_
                        refine Agg.heldTake (i := 1) (by decide +kernel) rfl rfl rfl (v := .pointer (some ⟨g, o + (0 : Int).toNat * 1, none⟩)) (fun z _ => by exact Agg.run_ia ti25 (i := 0) (by decide) (by decide) rfl rfl rfl) hc0 ?_
                        refine Agg.heldTake (i := 2) (by decide +kernel) rfl rfl rfl (v := .int .u8 (k0 : Int)) (fun z hz => by exact Agg.run_ld (t := 5) (by decide +kernel) rfl rfl hz) hc0 ?_
                        refine Agg.heldTake (i := 3) (by decide +kernel) rfl rfl rfl (v := .int .i64 (k0 : Int)) (fun z _ => by exact Agg.run_int (k := .u8) (m := (k0 : Int)) _ (by rw [IntKind.wrap_i64]; omega) Try.underlying5 Try.underlying3 rfl rfl) hc0 ?_
                        refine Agg.heldTake (i := 4) (by decide +kernel) rfl rfl rfl (v := .slice (some ⟨g, o, none⟩) 128 ca) (fun z _ => Agg.run_move rfl rfl) hc0 ?_
                        refine Agg.heldTake (i := 5) (by decide +kernel) rfl rfl rfl (v := .int .i64 (n1 : Int)) (fun z _ => Agg.run_move rfl rfl) hc0 ?_
                        refine Agg.heldTake (i := 6) (by decide +kernel) rfl rfl rfl (v := .int .i64 ((4 + n1 : Nat) : Int)) (fun z _ => by exact Agg.run_add (m := 4) (q := (n1 : Int)) (by omega) (by omega) (by omega) rfl rfl rfl) hc0 ?_
                        refine Agg.heldTake (i := 7) (by decide +kernel) rfl rfl rfl (v := .slice (some ⟨g, o + 4, none⟩) n1 (ca - 4)) (fun z _ => (by
                          have h := run_slice_fromto (P := Try.prog) ti25 g o 128 ca 4 (4 + n1) (by omega) (by omega) (by omega) z
                          rw [show 4 + n1 - 4 = n1 by omega] at h
                          exact Agg.run_sl2 h rfl rfl rfl rfl)) hc0 ?_
                        refine Agg.heldTake (i := 8) (by decide +kernel) rfl rfl rfl (v := .agg #[.int .i64 (k0 : Int), .slice (some ⟨g, o + 4, none⟩) n1 (ca - 4)]) (fun z _ => by exact Agg.run_bld (ps := [(0, .tmp 84), (1, .tmp 88)]) rfl (by kernel_rfl)) hc0 ?_
                        refine Agg.heldTake (i := 9) (by decide +kernel) rfl rfl rfl (v := .int .u64 (st0 b : Int)) (fun z _ => Agg.run_move rfl rfl) hc0 ?_
                        refine Agg.heldSt (.agg #[.int .i64 (k0 : Int), .slice (some ⟨g, o + 4, none⟩) n1 (ca - 4)]) [.int .i64 (k0 : Int), .slice (some ⟨g, o + 4, none⟩) n1 (ca - 4)] H2.out rfl (by kernel_rfl) (by simp) (by simp [Value.oneCell']) (i := 10) (by decide +kernel) rfl rfl rfl rfl rfl rfl (fun z1 hq1 hg1 => ⟨hg1.cell hc0 (by simpa using hgne), ?_⟩)
                        have hc1 := hg1.cell hc0 (by simpa using hgne)
                        refine Agg.heldOne (i := 11) (by decide +kernel) rfl rfl rfl (v := .int .u64 (st0 b : Int)) (Agg.run_assign rfl rfl) hc1 ?_
                        refine Agg.heldOne (i := 12) (by decide +kernel) rfl rfl rfl (v := .int .i64 0) (Agg.run_assign rfl rfl) hc1 ?_
                        refine Agg.heldDone (by decide +kernel) ?_
                        simp only [List.set_cons_succ, List.set_cons_zero]
                        go_wp2_with fail
                        refine bodyPost_ret (results_row3 (m := 2) rfl hq1 rfl (by decide +kernel) rfl) rfl ⟨_, rfl, ?_, ?_⟩
                        · have hby4 : Bytes z0 (.slice (some ⟨g, o, none⟩) 128 ca) (bytesB b) := own_bytes HO.out HL128.out
                          have hdl : (((bytesB b).drop 4).take n1).length = n1 := by rw [List.length_take, List.length_drop, HL128.out]; omega
                          refine ⟨by simp [bv_length], .inr ⟨_, ca - 4, by rw [hdl], by omega, by omega, fun i v hv => ?_⟩⟩
                          have h1 := (List.getElem?_eq_some_iff.1 hv).1
                          rw [bv_length, hdl] at h1
                          rw [bv_take, bv_drop, List.getElem?_take_of_lt h1, List.getElem?_drop] at hv
                          obtain ⟨b', o', c', hve, _, _, hcp, _⟩ := SlR.pos hby4 (by decide) (by rw [HL128.out]; decide)
                          simp only [Value.slice.injEq, Option.some.injEq, Addr.mk.injEq, and_true] at hve
                          obtain ⟨⟨rfl, rfl⟩, _⟩ := hve
                          have h3 := hg1.cell (hcp (4 + i) v hv) (by simpa using hgne)
                          rw [add_none, show o + 4 + i = o + (4 + i) by omega]
                          exact h3
                        · exact HB.out.trans (grown_below hg1 HB.out.size (fun j hj => (by cases hj; omega)))
                  · have c4 : ((b2 : Int) != 0) = false := by simp [hb2]
                    have c5 : ((b3 : Int) != 0) = true := by simp [hb3]
                    have hnf : ¬ formP (bytesB b) := fun h => hb3 (HF.out h).2.2.2.2
                    clear hb2 hb3
                    have hrr := HRR.out
                    rw [HOKF.out hnf] at hrr
                    simp only [Prod.mk.injEq] at hrr
                    obtain ⟨⟨rfl, rfl⟩, rfl, rfl⟩ := hrr
                    have hr2 := H2.out.cell 0
                    have hr3 := H2.out.cell 1
                    have hf2 := H2.out.frozen 0
                    have hf3 := H2.out.frozen 1
                    have hl2 := H2.out.lt
                    simp only [List.getElem?_cons_zero, List.getElem?_cons_succ] at hr2 hr3
                    clear hnf
                    go_wp2_with fail
                    refine bodyPost_ret (results_row3 rfl (H2.out.set2 (.int .i64 0) (.slice none 0 0)) rfl (by decide +kernel) rfl) rfl ⟨_, rfl, SlR.nil _ _, ?_⟩
                    exact (HB.out.setCell (by simp) _).setCell (by simp) _
                · have c4 : ((b2 : Int) != 0) = true := by simp [hb2]
                  have hnf : ¬ formP (bytesB b) := fun h => hb2 (HF.out h).2.2.2.1
                  clear hb2
                  have hrr := HRR.out
                  rw [HOKF.out hnf] at hrr
                  simp only [Prod.mk.injEq] at hrr
                  obtain ⟨⟨rfl, rfl⟩, rfl, rfl⟩ := hrr
                  have hr2 := H2.out.cell 0
                  have hr3 := H2.out.cell 1
                  have hf2 := H2.out.frozen 0
                  have hf3 := H2.out.frozen 1
                  have hl2 := H2.out.lt
                  simp only [List.getElem?_cons_zero, List.getElem?_cons_succ] at hr2 hr3
                  clear hnf
                  go_wp2_with fail
                  refine bodyPost_ret (results_row3 rfl (H2.out.set2 (.int .i64 0) (.slice none 0 0)) rfl (by decide +kernel) rfl) rfl ⟨_, rfl, SlR.nil _ _, ?_⟩
                  exact (HB.out.setCell (by simp) _).setCell (by simp) _
        · have hrr : readR b = ((0, []), 0, 271) := by rw [readR, if_pos hq, if_neg hsum]
          rw [HRR.out] at hrr
          simp only [Prod.mk.injEq] at hrr
          obtain ⟨⟨rfl, rfl⟩, rfl, rfl⟩ := hrr
          refine (rholds_any (bytesB b) _ wr hby false (by rw [HL128.out]; simpa using hsum)).mono ?_
          rintro e w22 ⟨rfl, hb⟩
          replace HB := Lib.hid (HB.out.trans (hb.mono HB.out.size))
          replace H1 := Lib.hid (H1.out.keep hb)
          replace H2 := Lib.hid (H2.out.keep hb)
          replace HO := Lib.hid (HO.out.keep hb)
          clear hb
          have hr2 := H2.out.cell 0
          have hr3 := H2.out.cell 1
          have hf2 := H2.out.frozen 0
          have hf3 := H2.out.frozen 1
          have hl2 := H2.out.lt
          simp only [List.getElem?_cons_zero, List.getElem?_cons_succ] at hr2 hr3
          clear hsum
          go_wp2_with fail
          refine bodyPost_ret (results_row3 rfl (H2.out.set2 (.int .i64 0) (.slice none 0 0)) rfl (by decide +kernel) rfl) rfl ⟨_, rfl, SlR.nil _ _, ?_⟩
          exact (HB.out.setCell (by simp) _).setCell (by simp) _
end Go.Proofs.Ytjnnnnolikbjcaa
end
section
/-
  PAGES: wakes.
-/
namespace Go.Proofs.Ytjnnnnolikbjcaa
open Go.ChangeShapes Go.WideShapes Go.ChangeAt Go.RowKit Agg Pg

theorem mixB_bok {a b : List Sec} (ha : BOk a) (hb : BOk b) (mask : Int) : BOk (mixB a b mask) := by
  rw [← mixTo_all]
  exact ⟨mixTo_length _ _ _ _, fun s hs => (mixTo_mem a b ha.1 hb.1 mask 4 s hs).elim (ha.2 s) (hb.2 s)⟩
theorem mix_15 (n m : Nat) (l k : List UInt8) : mixB (secsOf n l) (secsOf m k) 15 = secsOf m k := by
  simp [mixB, secsOf, List.range, List.range.loop]
theorem mix_5 (l k : List UInt8) : stampB (mixB (secsOf 7 l) (secsOf 9 k) 5) = false := by
  simp [mixB, secsOf, List.range, List.range.loop, stampB, st0]
theorem wk : ∃ a b, layR 2 [1, 2, 3] 7 = (a, 0) ∧ layR 2 [1, 2, 3] 9 = (b, 0) ∧ BOk a ∧ BOk b ∧ readR (mixB a b 15) = ((2, [1, 2, 3]), 9, 0) ∧ readR (mixB a b 5) = ((0, []), 0, 270) ∧ (blkC a)[1]? = some (.int .u8 2) := by
  have hp : pageP 2 [1, 2, 3] := by decide
  have h7 : stampP 7 := by decide
  have h9 : stampP 9 := by decide
  refine ⟨layB 2 [1, 2, 3] 7, layB 2 [1, 2, 3] 9, if_pos ⟨hp, h7⟩, if_pos ⟨hp, h9⟩, layB_bok _ _ _ (by decide) h7, layB_bok _ _ _ (by decide) h9, ?_, ?_, ?_⟩
  · unfold layB
    rw [mix_15]
    exact read_lay 2 [1, 2, 3] 9 hp h9
  · unfold layB
    rw [readR, if_neg (by rw [mix_5]; decide)]
  · rfl
end Go.Proofs.Ytjnnnnolikbjcaa
end
