/-
  ROOTS: the document's Parse.
-/
import Derived.Test.YtjnnnnolikbjcaaRtN3
namespace Go.Proofs.Ytjnnnnolikbjcaa
open Go.ChangeShapes Go.WideShapes Go.ChangeAt Go.RowKit Agg Pg Dv
attribute [local go_sem] Oper.semAt_some

theorem bytes_at {w : World} {b o n cap : Nat} {l : List UInt8} (h : SlR w (.slice (some ⟨b, o, none⟩) n cap) 1 n (bv l)) {k : Nat} (hk : k < l.length) (hn : 0 < n) : w.cell? ⟨b, o + k, none⟩ = some (.int .u8 (l[k].toNat : Int)) := by
  obtain ⟨b', o', cap', hve, _, _, hcm, _⟩ := SlR.pos h (by decide) hn
  injection hve with q1 q2 q3
  injection q1 with q1
  injection q1 with q1 q4 q5
  subst q1; subst q4
  exact hcm k _ (by simp [bv, List.getElem?_eq_getElem hk])
theorem two_at {B : List UInt8} {j : Nat} (h : 2 + 2 * j < B.length) : ((B.drop 1).drop (2 * j)).take 2 = [B[1 + 2 * j]'(by omega), B[2 + 2 * j]] := by
  rw [List.drop_drop, List.drop_eq_getElem_cons (show 1 + 2 * j < B.length by omega), List.drop_eq_getElem_cons (show 1 + 2 * j + 1 < B.length by omega)]
  simp only [List.take_succ_cons, List.take_zero]
  congr 2
  congr 1
  omega
theorem parsedB_w {slot : Int} {st : Nat} {B : List UInt8} {m : Nat} (hs1 : -9223372036854775808 ≤ slot) (hs2 : slot ≤ 9223372036854775807) (hst : st < 18446744073709551616) (hm : m ≤ 1000) : RtW (parsed slot st m B) := by
  have h1 := valB_nn ((B.drop (1 + 2 * m)).take 4)
  have h2 : ((B.drop (1 + 2 * m)).take 4).length ≤ 4 := by rw [List.length_take]; omega
  have h3 : (256 : Int) ^ ((B.drop (1 + 2 * m)).take 4).length ≤ 4294967296 := by
    have : ((B.drop (1 + 2 * m)).take 4).length = 0 ∨ ((B.drop (1 + 2 * m)).take 4).length = 1 ∨ ((B.drop (1 + 2 * m)).take 4).length = 2 ∨ ((B.drop (1 + 2 * m)).take 4).length = 3 ∨ ((B.drop (1 + 2 * m)).take 4).length = 4 := by omega
    rcases this with e | e | e | e | e <;> rw [e] <;> decide
  refine ⟨hs1, hs2, hst, by show _ ≤ valB _; omega, by show valB _ ≤ _; omega, fun z hz => ?_, by show (twos m (B.drop 1)).length ≤ 1000; rw [twos_len]; exact hm⟩
  obtain ⟨i, _, rfl⟩ := List.mem_map.1 hz
  have h1 := valB_nn (((B.drop 1).drop (2 * i)).take 2)
  have h2 : (((B.drop 1).drop (2 * i)).take 2).length ≤ 2 := by rw [List.length_take]; omega
  have h3 : (256 : Int) ^ (((B.drop 1).drop (2 * i)).take 2).length ≤ 65536 := by
    have : (((B.drop 1).drop (2 * i)).take 2).length = 0 ∨ (((B.drop 1).drop (2 * i)).take 2).length = 1 ∨ (((B.drop 1).drop (2 * i)).take 2).length = 2 := by omega
    rcases this with e | e | e <;> rw [e] <;> decide
  omega

theorem tail_step {B : List UInt8} {m i q : Nat} (hq : q = 1 + 2 * m + i) (h : q < B.length) (hi : i < 4) : valB (((B.drop (1 + 2 * m)).take 4).take (i + 1)) = valB (((B.drop (1 + 2 * m)).take 4).take i) * 256 + (B[q].toNat : Int) := by
  subst hq
  have hl : i < ((B.drop (1 + 2 * m)).take 4).length := by simp; omega
  rw [List.take_succ_eq_append_getElem hl, val_snoc]
  congr 2
  simp
theorem tail_small (B : List UInt8) (m : Nat) {i : Nat} (hi : i ≤ 3) : 0 ≤ valB (((B.drop (1 + 2 * m)).take 4).take i) ∧ valB (((B.drop (1 + 2 * m)).take 4).take i) < 16777216 := by
  have h1 := valB_nn (((B.drop (1 + 2 * m)).take 4).take i)
  have h2 : (((B.drop (1 + 2 * m)).take 4).take i).length ≤ 3 := by rw [List.length_take]; omega
  have h3 : (256 : Int) ^ (((B.drop (1 + 2 * m)).take 4).take i).length ≤ 16777216 := by
    have : (((B.drop (1 + 2 * m)).take 4).take i).length = 0 ∨ (((B.drop (1 + 2 * m)).take 4).take i).length = 1 ∨ (((B.drop (1 + 2 * m)).take 4).take i).length = 2 ∨ (((B.drop (1 + 2 * m)).take 4).take i).length = 3 := by omega
    rcases this with e | e | e | e <;> rw [e] <;> decide
  omega

set_option maxHeartbeats 8000000 in
set_option maxRecDepth 100000 in
theorem dParse_any (slot : Int) (st : Nat) (B : List UInt8) (u : Value) (w : World) (hu : Bytes w u B) (hB : B.length ≤ 1000) (hs1 : -9223372036854775808 ≤ slot) (hs2 : slot ≤ 9223372036854775807) (hst : st < 18446744073709551616) (o : Option Rt) (ho : parseR slot st B = o) :
    Calls Try.prog 30 #[.int .i64 slot, .int .u64 (st : Int), u] w fun e w' => ∃ v, e = .returned (.tuple #[v, .bool o.isSome]) ∧ RtO w.heap.size w' v (o.getD rt0) ∧ Below w.heap.size w w' := by
  obtain ⟨x, c, rfl, hc1, hc2⟩ := SlR.shape hu
  obtain ⟨ec, hec⟩ : ∃ e : Bool, o.isSome = e := ⟨_, rfl⟩
  rw [hec]
  have HEC := Lib.hid hec
  clear hec
  have HO := Lib.hid ho
  obtain ⟨n, hn⟩ : ∃ n, B.length = n := ⟨_, rfl⟩
  have HN := Lib.hid hn
  have HU : Hid (SlR w (.slice x n c) 1 n (bv B)) := Lib.hid (by have h := hu; rw [← hn]; exact h)
  rw [hn] at hB
  rw [hn]
  clear hn hu ho hc1 hc2
  have HU0 := HU
  have HB := Lib.hid (Below.refl w.heap.size w)
  go_enter Try.func30, Try.ntmps30
  go_upto_region 1 with (fail)
  refine Agg.wp_at fun w1 hw1 => ?_
  have hb : Below w.heap.size w w1 := by rw [hw1.out]; repeat (first | exact Below.refl _ _ | refine Agg.bel_drew ?_ | refine Agg.bel_alloc ?_ _)
  replace HB := Lib.hid (HB.out.trans (hb.mono HB.out.size))
  replace HU := Lib.hid (HU.out.keep hb)
  clear hb
  have H6 : Hid (Blk w1 w.heap.size 26 [.int .i64 0, .int .u64 0, .slice none 0 0, .int .i64 0]) := by show Blk _ _ _ _; rw [hw1.out]; exact Blk.new w 26 #[.int .i64 0, .int .u64 0, .slice none 0 0, .int .i64 0]
  clear hw1
  have hsz := HB.out.size
  have hfin : (n < 5 ∨ (n - 5) % 2 ≠ 0) → o = none := fun h => by rw [← HO.out]; exact parse_short _ _ _ (by rw [HN.out]; exact h)
  have HFN := Lib.hid hfin
  clear hfin
  by_cases k1 : n < 5
  · obtain rfl := HFN.out (.inl k1)
    obtain rfl : ec = false := by rw [← HEC.out]; rfl
    have h6 := H6.out
    go_wp2_with (first
      | (refine Agg.gStoreB 4 [.int .i64 0, .int .u64 0, .slice none 0 0, .int .i64 0] h6 rfl rfl rfl rfl rfl (by decide +kernel) rfl rfl (by simp [Value.oneCell']) (fun w14 hb14 hg14 => ?_)))
    exact bodyPost_ret (results_row2 (m := 4) rfl hb14 rfl (by decide +kernel) rfl) rfl ⟨_, rfl, rt0_o _ _, HB.out.trans (grown_below hg14 hsz (fun j hj => by cases hj; exact Nat.le_refl _))⟩
  · have hd0 : decide ((n : Int) < 5) = false := by simp; omega
    have hsub : IntKind.i64.wrap ((n : Int) - 5) = ((n - 5 : Nat) : Int) := by rw [IntKind.wrap_i64]; omega
    have hrem : ((n - 5 : Nat) : Int).tmod 2 = (((n - 5) % 2 : Nat) : Int) := by rw [Int.tmod_eq_emod_of_nonneg (by omega)]; omega
    obtain ⟨q, hq⟩ : ∃ q, ((((n - 5) % 2 : Nat) : Int) != 0) = q := ⟨_, rfl⟩
    have HQQ := Lib.hid (And.intro hsub (And.intro hrem hq))
    clear hsub hrem hq
    refine Agg.listR 10 (by kernel_rfl) ?_
    simp only [List.take_succ_cons, List.take_zero, List.drop_succ_cons, List.drop_zero]
    refine Agg.chMove rfl rfl rfl rfl ?_
    refine Agg.chLen Try.underlying57 rfl rfl rfl rfl ?_
    refine Agg.chLt false hd0 rfl rfl rfl rfl rfl ?_
    refine Agg.chMove rfl rfl rfl rfl ?_
    refine Agg.chMove rfl rfl rfl rfl ?_
    refine Agg.chLen Try.underlying57 rfl rfl rfl rfl ?_
    refine Agg.chAr (r := ((n - 5 : Nat) : Int)) rfl rfl rfl (congrArg some HQQ.out.1) rfl rfl ?_
    refine Agg.chRem (((n - 5) % 2 : Nat) : Int) rfl rfl rfl (by decide) HQQ.out.2.1 rfl rfl ?_
    refine Agg.chNe q HQQ.out.2.2 rfl rfl rfl rfl rfl ?_
    refine Agg.chPick rfl rfl rfl rfl rfl ?_
    refine Agg.chEnd ?_
    intro vs w2 hb _
    show Exit.then _ _ Exit.normal _ _
    simp only [List.reverse, List.reverseAux, Agg.fill, List.set_cons_succ, List.set_cons_zero]
    replace HB := Lib.hid (HB.out.trans (hb.mono HB.out.size))
    replace HU := Lib.hid (HU.out.keep hb)
    replace H6 := Lib.hid (H6.out.keep hb)
    clear hb
    clear hd0
    have hqc : q = true ∨ q = false := by cases q <;> simp
    rcases hqc with rfl | rfl
    · have hodd : (n - 5) % 2 ≠ 0 := by have := HQQ.out.2.2; simp only [bne_iff_ne, ne_eq] at this; omega
      obtain rfl := HFN.out (.inr hodd)
      obtain rfl : ec = false := by rw [← HEC.out]; rfl
      have h6 := H6.out
      have hszA := HB.out.size
      clear hodd
      go_wp2_with (first
        | (refine Agg.gStoreB 4 [.int .i64 0, .int .u64 0, .slice none 0 0, .int .i64 0] h6 rfl rfl rfl rfl rfl (by decide +kernel) rfl rfl (by simp [Value.oneCell']) (fun w14 hb14 hg14 => ?_)))
      exact bodyPost_ret (results_row2 (m := 4) rfl hb14 rfl (by decide +kernel) rfl) rfl ⟨_, rfl, rt0_o _ _, HB.out.trans (grown_below hg14 hszA (fun j hj => by cases hj; exact Nat.le_refl _))⟩
    · have hev : (n - 5) % 2 = 0 := by have := HQQ.out.2.2; simp only [bne_eq_false_iff_eq] at this; omega
      obtain ⟨m, hm⟩ : ∃ m, n = 5 + 2 * m := ⟨(n - 5) / 2, by omega⟩
      have HM := Lib.hid hm
      clear hev hm HQQ
      obtain ⟨b, ob, cap', hve, hcap, _⟩ := SlR.pos HU.out (by decide) (by omega)
      injection hve with q1 q2 q3
      subst q1
      clear q2 q3 hcap
      have h6lt := H6.out.lt
      go_upto_region 4 with (first
        | (refine Agg.gStoreNew 4 [.int .i64 slot, .int .u64 (st : Int), .slice none 0 0, .int .i64 0] rfl rfl rfl rfl rfl rfl (by decide +kernel) rfl rfl (by simp [Value.oneCell']) ?_; simp only [Act.put]))
      refine Agg.wp_at fun w3 hw3 => ?_
      have hb : Below w2.heap.size w2 w3 := by rw [hw3.out]; repeat (first | exact Below.refl _ _ | refine Agg.bel_drew ?_ | refine Agg.bel_alloc ?_ _)
      replace HB := Lib.hid (HB.out.trans (hb.mono HB.out.size))
      replace H6 := Lib.hid (H6.out.keep hb)
      clear hb
      have H8 : Hid (Blk w3 w2.heap.size 26 [.int .i64 slot, .int .u64 (st : Int), .slice none 0 0, .int .i64 0]) := by show Blk _ _ _ _; rw [hw3.out]; exact Blk.new w2 26 #[.int .i64 slot, .int .u64 (st : Int), .slice none 0 0, .int .i64 0]
      clear hw3
      obtain ⟨g8, hg8⟩ : ∃ g, w2.heap.size = g := ⟨_, rfl⟩
      rw [hg8] at H8 h6lt ⊢
      clear hg8
      clear hsz
      have hsz := HB.out.size
      have hszB : g8 < w3.heap.size := H8.out.lt
      go_wp2_with fail
      obtain ⟨wY, hwY⟩ : ∃ x, x = w3 := ⟨_, rfl⟩
      subst hwY
      have HBY := HB
      have H6Y := H6
      have H8Y := H8
      clear HB H6 H8 HU
      go_loopw [9] (fun ix wr => ∃ (p j : Nat) (x3 : Option Addr) (c3 : Nat), p = 1 + 2 * j ∧ p + 4 ≤ n ∧ ix = .int .i64 p ∧ wr.ownsRow (w.heap.size + 1) 3 1 (.slice x3 j c3) j (iC (twos j (B.drop 1))) ∧ Blk wr g8 26 [.int .i64 slot, .int .u64 (st : Int), .slice x3 j c3, .int .i64 0] ∧ Blk wr w.heap.size 26 [.int .i64 0, .int .u64 0, .slice none 0 0, .int .i64 0] ∧ Below w.heap.size w wr) (fun ix _ => n - (intOf ix).toNat)
      case atStart => exact ⟨1, 0, none, 0, rfl, by have := HM.out; omega, rfl, World.ownsRow_nil _ _ _ _, H8Y.out, H6Y.out, HBY.out⟩
      case round =>
        obtain ⟨p, j, x3, c3, hpj, hp, rfl, ho, h8, h6, hb⟩ := hrel
        have HPJ := Lib.hid hpj
        have HO3 := Lib.hid ho
        have H8 := Lib.hid h8
        have H6 := Lib.hid h6
        have HB := Lib.hid hb
        have HU := Lib.hid (SlR.keep HU0.out hb)
        have hszA := hb.size
        clear ho h8 h6 hb hpj
        obtain ⟨wA, hwA⟩ : ∃ x, x = wr := ⟨_, rfl⟩
        subst hwA
        have c2 := H8.out.cell 2
        simp only [List.getElem?_cons_zero, List.getElem?_cons_succ] at c2
        by_cases hlt : p + 4 < n
        · have hpB : p + 1 < B.length := by rw [HN.out]; omega
          have hjm : 2 + 2 * j < B.length := by have := HPJ.out; omega
          have hcell := bytes_at (l := B) HU.out (k := p) (by omega) (by omega)
          have hcell1 := bytes_at (l := B) HU.out (k := p + 1) hpB (by omega)
          have hst := twos_snoc j (B.drop 1)
          rw [two_at hjm, valB2] at hst
          have e1 : B[1 + 2 * j]'(by omega) = B[p]'(by omega) := by congr 1; exact HPJ.out.symm
          have e2 : B[2 + 2 * j]'(by omega) = B[p + 1]'(by omega) := by congr 1; have := HPJ.out; omega
          rw [e1, e2] at hst
          obtain ⟨y1, hy1⟩ : ∃ y, (B[p]'(by omega)).toNat = y := ⟨_, rfl⟩
          obtain ⟨y2, hy2⟩ : ∃ y, (B[p + 1]'(by omega)).toNat = y := ⟨_, rfl⟩
          have l1 : y1 < 256 := by rw [← hy1]; exact UInt8.toNat_lt _
          have l2 : y2 < 256 := by rw [← hy2]; exact UInt8.toNat_lt _
          rw [hy1] at hcell hst
          rw [hy2] at hcell1 hst
          have hj1 : j ≤ 1000 := by have := HPJ.out; omega
          clear e1 e2 hy1 hy2 hjm hpB
          have hw1 : IntKind.i64.wrap (256 * (y1 : Int)) = 256 * (y1 : Int) := by rw [IntKind.wrap_i64]; omega
          have hw2 : IntKind.i64.wrap ((p : Int) + 1) = ((p + 1 : Nat) : Int) := by rw [IntKind.wrap_i64]; omega
          have hw3 : IntKind.i64.wrap (256 * (y1 : Int) + (y2 : Int)) = (y1 : Int) * 256 + (y2 : Int) := by rw [IntKind.wrap_i64]; omega
          have hw4 : IntKind.i64.wrap (y1 : Int) = (y1 : Int) := by rw [IntKind.wrap_i64]; omega
          have hw5 : IntKind.i64.wrap (y2 : Int) = (y2 : Int) := by rw [IntKind.wrap_i64]; omega
          have HST := Lib.hid hst
          obtain ⟨z, hz⟩ : ∃ z, (y1 : Int) * 256 + (y2 : Int) = z := ⟨_, rfl⟩
          rw [hz] at HST hw3
          have HC1 := Lib.hid hcell
          have HC2 := Lib.hid hcell1
          have HQ := Lib.hid (And.intro hw1 (And.intro hw2 (And.intro hw3 (And.intro hw4 hw5))))
          clear hcell hcell1 hst hw1 hw2 hw3 hw4 hw5 hz
          go_upto_region 7 with (fail)
          clear c2
          have hszB := HB.out.size
          refine Agg.chainR 16 (by kernel_rfl) (by kernel_rfl) ?_
          simp only [List.take_succ_cons, List.take_zero, List.drop_succ_cons, List.drop_zero]
          refine Agg.chFA fo_Rt_2 rfl rfl rfl rfl ?_
          refine Agg.chLoadB H8.out (by decide +kernel) rfl rfl (by rfl) rfl rfl ?_
          refine Agg.chMove rfl rfl rfl rfl ?_
          refine Agg.chMove rfl rfl rfl rfl ?_
          refine Agg.chIA ti25 (by omega) (by omega) rfl rfl rfl rfl rfl ?_
          refine Agg.chLoad rfl rfl rfl rfl (by decide +kernel) (by simp only [Int.toNat_natCast, Nat.mul_one]; exact HC1.out) ?_
          refine Agg.chInt (y1 : Int) HQ.out.2.2.2.1 (by kernel_rfl) Try.underlying3 rfl rfl rfl rfl ?_
          refine Agg.chAr (r := 256 * (y1 : Int)) rfl rfl rfl (congrArg some HQ.out.1) rfl rfl ?_
          refine Agg.chMove rfl rfl rfl rfl ?_
          refine Agg.chMove rfl rfl rfl rfl ?_
          refine Agg.chAr (r := ((p + 1 : Nat) : Int)) rfl rfl rfl (congrArg some HQ.out.2.1) rfl rfl ?_
          refine Agg.chIA ti25 (by omega) (by omega) rfl rfl rfl rfl rfl ?_
          refine Agg.chLoad rfl rfl rfl rfl (by decide +kernel) (by simp only [Int.toNat_natCast, Nat.mul_one]; exact HC2.out) ?_
          refine Agg.chInt (y2 : Int) HQ.out.2.2.2.2 (by kernel_rfl) Try.underlying3 rfl rfl rfl rfl ?_
          refine Agg.chAr (r := z) rfl rfl rfl (congrArg some HQ.out.2.2.1) rfl rfl ?_
          refine Agg.chBuildSlice (e := 3) (ps := [(0, .tmp 48)]) #[.int .i64 z] rfl rfl rfl rfl (fun W => by kernel_rfl) ?_
          refine Agg.chEnd ?_
          intro vs w31 hb hf
          simp only [List.reverse, List.reverseAux, Agg.Facts] at hf
          obtain ⟨⟨g15, hv15, hg15, hb15⟩, _⟩ := hf
          simp only [List.reverse, List.reverseAux, Agg.fill, List.set_cons_succ, List.set_cons_zero, hv15]
          have hbA := HB.out.trans (hb.mono HB.out.size)
          have hoW := own_keep HO3.out hb
          have h8W := H8.out.keep hb
          have h6W := H6.out.keep hb
          have hsl := SlR.ofBlk hb15 0 1 1 _ rfl rfl (Nat.le_refl _) (by unfold maxLen; decide)
          clear hb hb15
          go_wp2_with (first
            | (refine Agg.append2 tiInt _ _ rfl rfl (w.heap.size + 1) (v := .slice x3 j c3) rfl hoW rfl hsl (by simp [Value.oneCell']) (by unfold maxLen; omega) (by omega) (by have := h8W.lt; omega) ?_; intro v4 w4 ho4 hg4 _; obtain ⟨x4, c4, rfl, _, _⟩ := (ownSl ho4).shape; have h84 := blk_row h8W hg4 (own_apart hoW h8W (by decide)); simp only [Act.put, List.setIfInBounds_toArray, List.set_cons_succ, List.set_cons_zero])
            | (refine Agg.gStoreCell 2 (.slice x4 (j + 1) c4) h84 rfl rfl rfl rfl rfl (by kernel_rfl) rfl (by simp) rfl (fun w5 hb5 hg5 => ?_)))
          have e5 : spliced [.int .i64 slot, .int .u64 (st : Int), .slice x3 j c3, .int .i64 0] 2 [.slice x4 (j + 1) c4] = [.int .i64 slot, .int .u64 (st : Int), .slice x4 (j + 1) c4, .int .i64 0] := rfl
          rw [e5] at hb5
          have h64 := blk_row h6W hg4 (own_apart hoW h6W (by decide))
          have h65 := h64.far' hg5 (by omega)
          have ho5 := ho4.kept hg5 (own_apart ho4 h84 (by decide))
          have hob := own_block hoW
          have hb4 := hbA.trans (grown_below hg4 hbA.size (fun k hk => by have := hob k hk; omega))
          have hb5' := hb4.trans (grown_below hg5 hb4.size (fun k hk => by cases hk; omega))
          have e6 : iC (twos j (B.drop 1)) ++ [.int .i64 z] = iC (twos (j + 1) (B.drop 1)) := by rw [HST.out]; simp [iC]
          have ho6 : w5.ownsRow (w.heap.size + 1) 3 1 (.slice x4 (j + 1) c4) (j + 1) (iC (twos (j + 1) (B.drop 1))) := by rw [← e6]; exact ho5
          refine noP ?_
          go_wp2_with fail
          exact ⟨⟨p + 2, j + 1, x4, c4, by have := HPJ.out; omega, by have := HPJ.out; have := HM.out; omega, by go_num, ho6, hb5, h65, hb5'⟩, by simp [intOf]; omega⟩
        · have hpe : p + 4 = n := by omega
          clear c2
          have hjm : j = m := by have := HPJ.out; have := HM.out; omega
          rw [hjm] at HO3 H8
          have hm5 : 1 + 2 * m = n - 4 := by have := HM.out; omega
          have HM5 := Lib.hid hm5
          have hm1 : m ≤ 1000 := by omega
          clear hjm hm5
          go_wp2_with fail
          have HBZ := HB
          have H6Z := H6
          have H8Z := H8
          have HO3Z := HO3
          clear HB H6 H8 HO3 HU
          obtain ⟨wZ, hwZ⟩ : ∃ x, x = wA := ⟨_, rfl⟩
          subst hwZ
          go_loopw [10] (fun ix wr => ∃ (q i : Nat), q = 1 + 2 * m + i ∧ i ≤ 4 ∧ ix = .int .i64 q ∧ wr.ownsRow (w.heap.size + 1) 3 1 (.slice x3 m c3) m (iC (twos m (B.drop 1))) ∧ Blk wr g8 26 [.int .i64 slot, .int .u64 (st : Int), .slice x3 m c3, .int .i64 (valB (((B.drop (1 + 2 * m)).take 4).take i))] ∧ Blk wr w.heap.size 26 [.int .i64 0, .int .u64 0, .slice none 0 0, .int .i64 0] ∧ Below w.heap.size w wr) (fun ix _ => n - (intOf ix).toNat)
          case atStart => exact ⟨n - 4, 0, by rw [HM5.out]; rfl, by omega, by first | rfl | go_num | (congr 1; omega), HO3Z.out, H8Z.out, H6Z.out, HBZ.out⟩
          case round =>
            obtain ⟨q, i, hqi, hi4, rfl, ho, h8, h6, hb⟩ := hrel
            have hqn : q ≤ n := by have := HM5.out; omega
            have HQI := Lib.hid hqi
            have HO3 := Lib.hid ho
            have H8 := Lib.hid h8
            have H6 := Lib.hid h6
            have HB := Lib.hid hb
            have HU := Lib.hid (SlR.keep HU0.out hb)
            have hszC := hb.size
            clear ho h8 h6 hb hqi
            obtain ⟨wC, hwC⟩ : ∃ x, x = wr := ⟨_, rfl⟩
            subst hwC
            by_cases hlt2 : q < n
            · have hqB : q < B.length := by rw [HN.out]; exact hlt2
              have hi3 : i ≤ 3 := by have := HQI.out; have := HM5.out; omega
              have hcell := bytes_at (l := B) HU.out (k := q) hqB (by omega)
              have hst := tail_step HQI.out hqB (by omega)
              have hsm := tail_small B m hi3
              obtain ⟨y1, hy1⟩ : ∃ y, (B[q]'hqB).toNat = y := ⟨_, rfl⟩
              have l1 : y1 < 256 := by rw [← hy1]; exact UInt8.toNat_lt _
              rw [hy1] at hcell hst
              obtain ⟨v0, hv0⟩ : ∃ v, valB (((B.drop (1 + 2 * m)).take 4).take i) = v := ⟨_, rfl⟩
              rw [hv0] at hst hsm H8
              obtain ⟨v1, hv1⟩ : ∃ v, valB (((B.drop (1 + 2 * m)).take 4).take (i + 1)) = v := ⟨_, rfl⟩
              rw [hv1] at hst
              have HV1 := Lib.hid hv1
              have hw1 : IntKind.i64.wrap (256 * v0) = 256 * v0 := by rw [IntKind.wrap_i64]; omega
              have hw3 : IntKind.i64.wrap (256 * v0 + (y1 : Int)) = v1 := by rw [IntKind.wrap_i64]; omega
              have hw4 : IntKind.i64.wrap (y1 : Int) = (y1 : Int) := by rw [IntKind.wrap_i64]; omega
              have HQ := Lib.hid (And.intro hw1 (And.intro hw3 hw4))
              have HC1 := Lib.hid hcell
              clear hst hy1 hv0 hv1 hcell hsm hw1 hw3 hw4
              have c3 := H8.out.cell 3
              simp only [List.getElem?_cons_zero, List.getElem?_cons_succ] at c3
              go_upto_region 11 with (fail)
              clear c3
              refine Agg.chainR 9 (by kernel_rfl) (by kernel_rfl) ?_
              simp only [List.take_succ_cons, List.take_zero, List.drop_succ_cons, List.drop_zero]
              refine Agg.chFA fo_Rt_3 rfl rfl rfl rfl ?_
              refine Agg.chLoadB H8.out (by decide +kernel) rfl rfl (by rfl) rfl rfl ?_
              refine Agg.chAr (r := 256 * v0) rfl rfl rfl (congrArg some HQ.out.1) rfl rfl ?_
              refine Agg.chMove rfl rfl rfl rfl ?_
              refine Agg.chMove rfl rfl rfl rfl ?_
              refine Agg.chIA ti25 (by omega) (by omega) rfl rfl rfl rfl rfl ?_
              refine Agg.chLoad rfl rfl rfl rfl (by decide +kernel) (by simp only [Int.toNat_natCast, Nat.mul_one]; exact HC1.out) ?_
              refine Agg.chInt (y1 : Int) HQ.out.2.2 (by kernel_rfl) Try.underlying3 rfl rfl rfl rfl ?_
              refine Agg.chAr (r := v1) rfl rfl rfl (congrArg some HQ.out.2.1) rfl rfl ?_
              refine Agg.chEnd ?_
              intro vs w51 hb hf
              simp only [List.reverse, List.reverseAux, Agg.Facts] at hf
              obtain _ := hf
              simp only [List.reverse, List.reverseAux, Agg.fill, List.set_cons_succ, List.set_cons_zero]
              have hbA := HB.out.trans (hb.mono HB.out.size)
              have hoW := own_keep HO3.out hb
              have h8W := H8.out.keep hb
              have h6W := H6.out.keep hb
              clear hb
              go_wp2_with (first
                | (refine Agg.gStoreCell 3 (.int .i64 v1) h8W rfl rfl rfl rfl rfl (by kernel_rfl) rfl (by simp) rfl (fun w5 hb5 hg5 => ?_)))
              have e5 : spliced [.int .i64 slot, .int .u64 (st : Int), .slice x3 m c3, .int .i64 v0] 3 [.int .i64 v1] = [.int .i64 slot, .int .u64 (st : Int), .slice x3 m c3, .int .i64 v1] := rfl
              rw [e5, ← HV1.out] at hb5
              have h65 := h6W.far' hg5 (by omega)
              have ho5 := hoW.kept hg5 (own_apart hoW h8W (by decide))
              have hb5' := hbA.trans (grown_below hg5 hbA.size (fun k hk => by cases hk; omega))
              refine noP ?_
              go_wp2_with fail
              exact ⟨⟨q + 1, i + 1, by have := HQI.out; omega, by omega, by go_num, ho5, hb5, h65, hb5'⟩, by simp [intOf]; omega⟩
            · have hqe : q = n := by omega
              have hiE : i = 4 := by have := HQI.out; have := HM5.out; omega
              rw [hiE, List.take_take, Nat.min_self] at H8
              clear hiE hqn
              obtain ⟨y, hy⟩ : ∃ y, valB ((B.drop (1 + 2 * m)).take 4) = y := ⟨_, rfl⟩
              have HPD : Hid (parsed slot st m B = ⟨slot, st, twos m (B.drop 1), y⟩) := Lib.hid (by unfold parsed; rw [hy])
              rw [hy] at H8
              clear hy
              have HRO : Hid (RtO (w.heap.size + 1) wC (.agg #[.int .i64 slot, .int .u64 (st : Int), .slice x3 m c3, .int .i64 y]) (parsed slot st m B)) := Lib.hid (by
                rw [HPD.out]
                refine ⟨.slice x3 m c3, rfl, ?_⟩
                show World.ownsRow _ _ _ 1 _ (twos m (B.drop 1)).length _
                rw [twos_len]
                exact HO3.out)
              have HPW : Hid (RtW (parsed slot st m B)) := Lib.hid (parsedB_w hs1 hs2 hst hm1)
              have HNO : Hid (¬(rightB (parsed slot st m B) = true ∧ dataR (parsed slot st m B) = B) → o = none) := Lib.hid (fun h => by rw [← HO.out]; exact parse_none _ _ _ m (by rw [HN.out]; exact HM.out) h)
              have HYES : Hid (rightB (parsed slot st m B) = true → dataR (parsed slot st m B) = B → o = some (parsed slot st m B)) := Lib.hid (fun h1 h2 => by rw [← HO.out]; exact (parse_doc slot st B m (by rw [HN.out]; exact HM.out)).1 ⟨h1, h2⟩)
              have HRL : Hid ((parsed slot st m B).pages.length = m) := Lib.hid (by unfold parsed; dsimp only; rw [twos_len])
              obtain ⟨r, hr⟩ : ∃ r, parsed slot st m B = r := ⟨_, rfl⟩
              rw [hr] at HRO HPW HNO HYES HRL
              clear hr HPD HO3
              obtain ⟨qr, hqr⟩ : ∃ b, rightB r = b := ⟨_, rfl⟩
              have HQR := Lib.hid hqr
              have h8 := H8.out
              go_wp2_with (refine Agg.gLoadB 4 h8 rfl rfl rfl rfl (by decide +kernel) ?_; simp only [Act.put, List.setIfInBounds_toArray, List.set_cons_succ, List.set_cons_zero])
              clear h8
              refine (dRight_any r _ wC HRO.out.read HPW.out).mono ?_
              rintro e w52 ⟨rfl, hb⟩
              replace HB := Lib.hid (HB.out.trans (hb.mono HB.out.size))
              replace H8 := Lib.hid (H8.out.keep hb)
              replace H6 := Lib.hid (H6.out.keep hb)
              replace HRO := Lib.hid (HRO.out.keep hb)
              replace HU := Lib.hid (HU.out.keep hb)
              clear hb
              have hszD := HB.out.size
              rw [HQR.out]
              cases qr
              · obtain rfl : o = none := HNO.out (fun h => by rw [HQR.out] at h; exact absurd h.1 (by decide))
                obtain rfl : ec = false := by rw [← HEC.out]; rfl
                have h6 := H6.out
                go_wp2_with (first
                  | (refine Agg.gStoreB 4 [.int .i64 0, .int .u64 0, .slice none 0 0, .int .i64 0] h6 rfl rfl rfl rfl rfl (by decide +kernel) rfl rfl (by simp [Value.oneCell']) (fun w14 hb14 hg14 => ?_)))
                exact bodyPost_ret (results_row2 (m := 4) rfl hb14 rfl (by decide +kernel) rfl) rfl ⟨_, rfl, rt0_o _ _, HB.out.trans (grown_below hg14 hszD (fun j hj => by cases hj; exact Nat.le_refl _))⟩
              · have hRR : RightR r := (right_iff r).1 HQR.out
                have h8 := H8.out
                go_wp2_with (refine Agg.gLoadB 4 h8 rfl rfl rfl rfl (by decide +kernel) ?_; simp only [Act.put, List.setIfInBounds_toArray, List.set_cons_succ, List.set_cons_zero])
                clear h8
                refine (dData_any r _ w52 HRO.out.read hRR).mono ?_
                rintro e w53 ⟨ud, rfl, hud, hb⟩
                replace HB := Lib.hid (HB.out.trans (hb.mono HB.out.size))
                replace H8 := Lib.hid (H8.out.keep hb)
                replace H6 := Lib.hid (H6.out.keep hb)
                replace HRO := Lib.hid (HRO.out.keep hb)
                replace HU := Lib.hid (HU.out.keep hb)
                clear hb
                obtain ⟨D, hD⟩ : ∃ D, dataR r = D := ⟨_, rfl⟩
                have hDn : D.length = n := by
                  rw [← hD, dataR_len]
                  have h2 := HRL.out
                  have h3 := HM.out
                  omega
                rw [hD] at hud HYES HNO
                have HDN := Lib.hid hDn
                obtain ⟨xd, cd, rfl, _, _⟩ := SlR.shape hud
                obtain ⟨bd, od, capd, hve, hcap, _⟩ := SlR.pos hud (by decide) (by rw [hDn]; omega)
                injection hve with q1 q2 q3
                subst q1
                clear q2 q3 hcap
                have HD : Hid (SlR w53 (.slice (some ⟨bd, od, none⟩) n cd) 1 n (bv D)) := Lib.hid (by rw [← hDn]; exact hud)
                rw [hDn]
                clear hud hD hDn
                go_wp2_with fail
                have hszE := HB.out.size
                have HBE := HB
                have H6E := H6
                have H8E := H8
                have HROE := HRO
                have HUE := HU
                have HDE := HD
                clear HB H6 H8 HRO HU HD
                obtain ⟨wE, hwE⟩ : ∃ x, x = w53 := ⟨_, rfl⟩
                subst hwE
                go_loopw [12] (fun ix wr => ∃ (k : Nat), k ≤ n ∧ ix = .int .i64 k ∧ D.take k = B.take k ∧ Below wE.heap.size wE wr) (fun ix _ => n - (intOf ix).toNat)
                case atStart => exact ⟨0, by omega, rfl, rfl, Below.refl _ _⟩
                case round =>
                  obtain ⟨k, hk, rfl, htk, hb⟩ := hrel
                  have HTK := Lib.hid htk
                  have HB := Lib.hid (HBE.out.trans (hb.mono HBE.out.size))
                  have H6 := Lib.hid (H6E.out.keep hb)
                  have H8 := Lib.hid (H8E.out.keep hb)
                  have HRO := Lib.hid (HROE.out.keep hb)
                  have HU := Lib.hid (SlR.keep HUE.out hb)
                  have HD := Lib.hid (SlR.keep HDE.out hb)
                  have HBB := Lib.hid hb
                  clear hb htk
                  obtain ⟨wG, hwG⟩ : ∃ x, x = wr := ⟨_, rfl⟩
                  subst hwG
                  by_cases hlt3 : k < n
                  · have hkB : k < B.length := by rw [HN.out]; exact hlt3
                    have hkD : k < D.length := by rw [HDN.out]; exact hlt3
                    have hc1 := bytes_at (l := B) HU.out (k := k) hkB (by omega)
                    have hc2 := bytes_at (l := D) HD.out (k := k) hkD (by omega)
                    have hs1 := List.take_succ_eq_append_getElem hkB
                    have hs2 := List.take_succ_eq_append_getElem hkD
                    have hne : B[k] ≠ D[k] → D ≠ B := fun h e => h (by subst e; rfl)
                    obtain ⟨y1, hy1⟩ : ∃ y, B[k] = y := ⟨_, rfl⟩
                    obtain ⟨y2, hy2⟩ : ∃ y, D[k] = y := ⟨_, rfl⟩
                    rw [hy1] at hc1 hs1 hne
                    rw [hy2] at hc2 hs2 hne
                    have HC1 := Lib.hid hc1
                    have HC2 := Lib.hid hc2
                    have HS := Lib.hid (And.intro hs1 (And.intro hs2 hne))
                    obtain ⟨t, ht⟩ : ∃ b, (((y2.toNat : Int) != (y1.toNat : Int)) = b) := ⟨_, rfl⟩
                    have HT := Lib.hid ht
                    clear hy1 hy2 hc1 hc2 hs1 hs2 hne ht
                    go_upto_region 18 with (fail)
                    refine Agg.chainR 9 (by kernel_rfl) (by kernel_rfl) ?_
                    simp only [List.take_succ_cons, List.take_zero, List.drop_succ_cons, List.drop_zero]
                    refine Agg.chMove rfl rfl rfl rfl ?_
                    refine Agg.chMove rfl rfl rfl rfl ?_
                    refine Agg.chIA ti25 (by omega) (by omega) rfl rfl rfl rfl rfl ?_
                    refine Agg.chLoad rfl rfl rfl rfl (by decide +kernel) (by simp only [Int.toNat_natCast, Nat.mul_one]; exact HC2.out) ?_
                    refine Agg.chMove rfl rfl rfl rfl ?_
                    refine Agg.chMove rfl rfl rfl rfl ?_
                    refine Agg.chIA ti25 (by omega) (by omega) rfl rfl rfl rfl rfl ?_
                    refine Agg.chLoad rfl rfl rfl rfl (by decide +kernel) (by simp only [Int.toNat_natCast, Nat.mul_one]; exact HC1.out) ?_
                    refine Agg.chNe t HT.out rfl rfl rfl rfl rfl ?_
                    refine Agg.chEnd ?_
                    intro vs w71 hb hf
                    simp only [List.reverse, List.reverseAux, Agg.Facts] at hf
                    obtain _ := hf
                    simp only [List.reverse, List.reverseAux, Agg.fill, List.set_cons_succ, List.set_cons_zero]
                    refine Agg.wpNil ?_
                    have hbb := HBB.out.trans (hb.mono HBB.out.size)
                    have hbw := HB.out.trans (hb.mono HB.out.size)
                    have h6 := H6.out.keep hb
                    clear hb
                    cases t
                    · have heq : y2 = y1 := by have := HT.out; simp only [bne_eq_false_iff_eq] at this; exact UInt8.toNat_inj.1 (by omega)
                      go_wp2_with fail
                      exact ⟨⟨k + 1, by omega, by go_num, by rw [HS.out.2.1, HS.out.1, heq, HTK.out], hbb⟩, by simp [intOf]; omega⟩
                    · have hne : y1 ≠ y2 := by rintro rfl; have := HT.out; simp at this
                      obtain rfl : o = none := HNO.out (fun h => HS.out.2.2 hne h.2)
                      obtain rfl : ec = false := by rw [← HEC.out]; rfl
                      have hszH := hbw.size
                      clear hne hbb
                      go_wp2_with (first
                        | (refine Agg.gStoreB 4 [.int .i64 0, .int .u64 0, .slice none 0 0, .int .i64 0] h6 rfl rfl rfl rfl rfl (by decide +kernel) rfl rfl (by simp [Value.oneCell']) (fun w14 hb14 hg14 => ?_)))
                      exact bodyPost_ret (results_row2 (m := 4) rfl hb14 rfl (by decide +kernel) rfl) rfl ⟨_, rfl, rt0_o _ _, hbw.trans (grown_below hg14 hszH (fun j hj => by cases hj; exact Nat.le_refl _))⟩
                  · have hke : k = n := by omega
                    have hDB : D = B := by
                      have h := HTK.out
                      rwa [List.take_of_length_le (by rw [HDN.out]; omega), List.take_of_length_le (by rw [HN.out]; omega)] at h
                    obtain rfl : o = some r := HYES.out HQR.out hDB
                    obtain rfl : ec = true := by rw [← HEC.out]; rfl
                    have h6 := H6.out
                    have h8 := H8.out
                    have hszH := HB.out.size
                    clear hDB hke
                    go_wp2_with (first
                      | (refine Agg.gLoadB 4 h8 rfl rfl rfl rfl (by decide +kernel) ?_; simp only [Act.put, List.setIfInBounds_toArray, List.set_cons_succ, List.set_cons_zero])
                      | (refine Agg.gStoreB 4 [.int .i64 slot, .int .u64 (st : Int), .slice x3 m c3, .int .i64 y] h6 rfl rfl rfl rfl rfl (by decide +kernel) rfl rfl (by simp [Value.oneCell']) (fun w14 hb14 hg14 => ?_)))
                    exact bodyPost_ret (results_row2 (m := 4) rfl hb14 rfl (by decide +kernel) rfl) rfl ⟨_, rfl, (HRO.out.far h6 (by decide) hg14).base (by omega), HB.out.trans (grown_below hg14 hszH (fun j hj => by cases hj; exact Nat.le_refl _))⟩
end Go.Proofs.Ytjnnnnolikbjcaa
