/-
  THE WALKS OF LAYER 15 (crc), fourth part: the reference's Bit, More, Sum, Bytes, Zeros; slices.Equal of bytes.
-/
import Derived.Test.YtjnnnnolikbjcaaPMore
namespace Go.Proofs.Ytjnnnnolikbjcaa
open Go.ChangeShapes Go.WideShapes Go.ChangeAt Go.RowKit Agg

theorem bit_hi (s : Crc.W) (b : Bool) (h : (s.msb ^^ b) = true) : bits .xor .u32 ((s.toNat : Int) * 2 % 4294967296) 79764919 = ((Crc.bit s b).toNat : Int) := by
  have e : (s.toNat : Int) * (2 : Int) % (4294967296 : Int) = Int.ofNat (s <<< 1).toNat := by
    show _ = (((s <<< 1).toNat : Nat) : Int)
    rw [BitVec.toNat_shiftLeft, Nat.shiftLeft_eq]; omega
  have e2 : (79764919 : Int) = (Crc.poly.toNat : Int) := by decide
  rw [e, e2]
  show bits .xor .u32 (((s <<< 1).toNat : Nat) : Int) _ = _
  rw [bxor, Crc.bit_alt, h]; rfl
theorem bit_lo (s : Crc.W) (b : Bool) (h : (s.msb ^^ b) = false) : (s.toNat : Int) * 2 % 4294967296 = ((Crc.bit s b).toNat : Int) := by
  have e : (s.toNat : Int) * (2 : Int) % (4294967296 : Int) = Int.ofNat (s <<< 1).toNat := by
    show _ = (((s <<< 1).toNat : Nat) : Int)
    rw [BitVec.toNat_shiftLeft, Nat.shiftLeft_eq]; omega
  rw [e, Crc.bit_alt, h]; simp
theorem msb_top (s : Crc.W) : (s.toNat : Int) / 2147483648 = if s.msb then 1 else 0 := by
  have := s.isLt
  cases h : s.msb
  · have := BitVec.msb_eq_false_iff_two_mul_lt.1 h; simp; omega
  · have := BitVec.msb_eq_true_iff_two_mul_ge.1 h; simp; omega

set_option maxHeartbeats 400000 in
theorem bit_any (s : Crc.W) (b : Int) (w : World) (h0 : 0 ≤ b) (h1 : b ≤ 1) :
    Calls Try.prog 92 #[.int .u32 s.toNat, .int .u32 b] w fun e w' => e = .returned (.int .u32 (Crc.bit s (b == 1)).toNat) ∧ w = w' := by
  have ht := msb_top s
  have hs := s.isLt
  have hb : b = 0 ∨ b = 1 := by omega
  cases hm : s.msb <;> rcases hb with rfl | rfl
  · have HX := Lib.hid (bit_lo s ((0 : Int) == 1) (by rw [hm]; rfl))
    rw [hm] at ht
    simp only [Bool.false_eq_true, if_false] at ht
    clear hm h0 h1
    go_enter Try.func92, Try.ntmps92
    go_wp2
    go_ret
    exact ⟨ret_int (by rw [← HX.out]; omega), rfl⟩
  · have HX := Lib.hid (bit_hi s ((1 : Int) == 1) (by rw [hm]; rfl))
    have hm2 : (s.toNat : Int) * 2 % 4294967296 = s.toNat * 2 := by rw [hm] at ht; simp at ht; omega
    rw [hm2] at HX
    clear hm2
    rw [hm] at ht
    simp only [Bool.false_eq_true, if_false] at ht
    clear hm h0 h1
    go_enter Try.func92, Try.ntmps92
    go_wp2
    go_ret
    exact ⟨ret_int HX.out, rfl⟩
  · have HX := Lib.hid (bit_hi s ((0 : Int) == 1) (by rw [hm]; rfl))
    rw [hm] at ht
    simp only [if_true] at ht
    clear hm h0 h1
    go_enter Try.func92, Try.ntmps92
    go_wp2
    go_ret
    exact ⟨ret_int HX.out, rfl⟩
  · have HX := Lib.hid (bit_lo s ((1 : Int) == 1) (by rw [hm]; rfl))
    rw [hm] at ht
    simp only [if_true] at ht
    clear hm h0 h1
    go_enter Try.func92, Try.ntmps92
    go_wp2
    go_ret
    exact ⟨ret_int HX.out, rfl⟩

set_option maxHeartbeats 400000 in
theorem rmore_any (s : Crc.W) (l : List UInt8) (v : Value) (w : World) (hv : Bytes w v l) :
    Calls Try.prog 87 #[.int .u32 s.toNat, v] w fun e w' => e = .returned (.int .u32 (Crc.more s l).toNat) ∧ w = w' := by
  have hs : SlR w v 1 l.length (bv l) := hv
  clear hv
  obtain ⟨x, cap, rfl, hc1, hc2⟩ := hs.shape
  have hc3 : cap ≤ 9223372036854775807 := by unfold maxLen at hc2; omega
  clear hc2
  have HE : Hid (Crc.more s l = Crc.more s (l.take l.length)) := by show _ = _; rw [List.take_length]
  generalize hn : l.length = n at *
  have HN : Hid (l.length = n) := hn
  clear hn
  go_enter Try.func87, Try.ntmps87
  go_wp2
  go_loop [0, 5] (fun t i => ∃ k : Nat, k ≤ n ∧ i = .int .i64 k ∧ t = .int .u32 (Crc.more s (l.take k)).toNat) (fun _ i => n - (intOf i).toNat)
  case atStart => exact ⟨0, by omega, rfl, rfl⟩
  case round =>
    obtain ⟨k, hk, rfl, rfl⟩ := hrel
    by_cases hlt : k < n
    · have hlt' : k < l.length := by rw [HN.out]; exact hlt
      obtain ⟨b, o, cap', hve, _, _, hcs, hbl⟩ := SlR.pos hs (by decide) (by omega)
      simp only [Value.slice.injEq, true_and] at hve
      obtain ⟨rfl, rfl⟩ := hve
      have hck : w.cell? ⟨b, o + k, none⟩ = some (.int .u8 (l[k].toNat : Int)) := hcs k _ (bv_get l k hlt')
      have HS : Hid (Crc.more s (l.take (k + 1)) = Crc.feed (Crc.more s (l.take k)) ((Crc.bits8 l[k]).take 8)) := by
        show _ = _
        rw [List.take_succ_eq_append_getElem hlt', Crc.more_append, Crc.more_cons, Crc.more_nil, List.take_of_length_le (l := Crc.bits8 l[k]) (by rw [Crc.bits8_length]; exact Nat.le_refl _)]
      have hby := l[k].toNat_lt
      have HL := Lib.hid (Crc.left_zero _ hby)
      clear hcs
      generalize l[k] = c at *
      generalize Crc.more s (l.take k) = t at *
      go_wp2
      go_loop [0, 6, 7] (fun u d i => ∃ j : Nat, j ≤ 8 ∧ i = .int .i64 j ∧ d = .int .u32 (Crc.left c.toNat j) ∧ u = .int .u32 (Crc.feed t ((Crc.bits8 c).take j)).toNat) (fun _ _ i => 8 - (intOf i).toNat)
      case atStart => exact ⟨0, by omega, rfl, by rw [HL.out], rfl⟩
      case round =>
        obtain ⟨j, hj, rfl, rfl, rfl⟩ := hrel
        by_cases hlt2 : j < 8
        · have hst := Crc.left_step c.toNat j hlt2
          have hle := Crc.left_lt c.toNat j hj
          have HF := Lib.hid (Crc.feed_take t c j hlt2)
          have HS2 := Lib.hid hst
          clear hst
          have hq : Crc.left c.toNat j / 128 ≤ 1 := by omega
          generalize Crc.feed t ((Crc.bits8 c).take j) = u at *
          generalize hd : Crc.left c.toNat j = d at *
          have HD := Lib.hid hd
          clear hd
          go_wp2_with (go_at_call 92; refine (bit_any u _ _ (by omega) (by omega)).mono ?_; rintro e w1 ⟨rfl, rfl⟩)
          go_round
          case rel =>
            refine ⟨j + 1, by omega, by go_num, ?_, ?_⟩
            · rw [← HS2.out.1]; go_num
            · rw [HF.out, ← HS2.out.2]
              have hbe : ((d : Int) / 128 == 1) = (d / 128 == 1) := by
                by_cases h : d / 128 = 1
                · have h2 : (d : Int) / 128 = 1 := by omega
                  rw [h, h2]; rfl
                · have h2 : ¬ (d : Int) / 128 = 1 := by omega
                  rw [beq_false_of_ne h, beq_false_of_ne h2]
              rw [← hbe]
          case measure => simp [intOf]; omega
        · obtain rfl : j = 8 := by omega
          go_wp2
          go_round
          case rel => exact ⟨k + 1, by omega, by go_num, by rw [HS.out]⟩
          case measure => simp [intOf]; omega
    · obtain rfl : k = n := by omega
      go_wp2
      go_ret
      exact ⟨by rw [HE.out]; rfl, rfl⟩

theorem rsum_any (l : List UInt8) (v : Value) (w : World) (hv : Bytes w v l) :
    Calls Try.prog 76 #[v] w fun e w' => e = .returned (.int .u32 (Crc.sum l).toNat) ∧ w = w' := by
  have HV := Lib.hid hv
  clear hv
  go_enter Try.func76, Try.ntmps76
  go_wp2_with fail
  refine (rmore_any Crc.ones l v w HV.out).mono ?_
  rintro e w1 ⟨rfl, rfl⟩
  go_wp2_with fail
  go_ret
  exact ⟨rfl, rfl⟩
theorem bytes_slice (w : World) (cs : Array Value) (l : List UInt8) (n : Nat) (hn : cs.toList = bv l) (hl : l.length = n) (hm : n ≤ maxLen) (base : Nat) (hb : base ≤ w.heap.size) :
    (w.alloc (.cells cs 5)).ownsRow base 5 1 (.slice (some ⟨w.heap.size, 0, none⟩) n n) n (bv l) := by
  have h := World.ownsRow_lit (e := 5) (size := 1) (base := base) w cs n hb hm (by rw [← Array.length_toList, hn, bv_length, hl]; simp)
  rwa [hn] at h
theorem own_bytes {w : World} {base : Nat} {v : Value} {l : List UInt8} {n : Nat} (h : w.ownsRow base 5 1 v n (bv l)) (hl : l.length = n) : Bytes w v l := by
  subst hl; exact ownSl h

theorem byte_vals (s : Crc.W) : bv (Crc.bytes s) = [.int .u8 ((s.toNat : Int) / 16777216), .int .u8 ((s.toNat : Int) / 65536 % 256), .int .u8 ((s.toNat : Int) / 256 % 256), .int .u8 ((s.toNat : Int) % 256)] := by
  have := s.isLt
  have e0 : ((UInt8.ofNat (s.toNat / 16777216)).toNat : Int) = (s.toNat : Int) / 16777216 := by rw [UInt8.toNat_ofNat']; omega
  have e1 : ((UInt8.ofNat (s.toNat / 65536 % 256)).toNat : Int) = (s.toNat : Int) / 65536 % 256 := by rw [UInt8.toNat_ofNat']; omega
  have e2 : ((UInt8.ofNat (s.toNat / 256 % 256)).toNat : Int) = (s.toNat : Int) / 256 % 256 := by rw [UInt8.toNat_ofNat']; omega
  have e3 : ((UInt8.ofNat (s.toNat % 256)).toNat : Int) = (s.toNat : Int) % 256 := by rw [UInt8.toNat_ofNat']; omega
  simp only [Crc.bytes, bv, List.map_cons, List.map_nil, e0, e1, e2, e3]

set_option maxHeartbeats 400000 in
theorem rbytes_any (s : Crc.W) (w : World) :
    Calls Try.prog 75 #[.int .u32 s.toNat] w fun e w' => ∃ v', e = .returned v' ∧ w'.ownsRow w.heap.size 5 1 v' 4 (bv (Crc.bytes s)) ∧ Below w.heap.size w w' := by
  have HB := Lib.hid (byte_vals s)
  have hs := s.isLt
  go_enter Try.func75, Try.ntmps75
  go_wp2
  refine bodyPost_ret (results_tmp rfl _ _ _) rfl ⟨.slice (some ⟨w.heap.size, 0, none⟩) 4 4, rfl, bytes_slice w _ (Crc.bytes s) 4 HB.out.symm rfl (by decide) _ (Nat.le_refl _), (Below.refl _ w).alloc (Nat.le_refl _) _⟩

def Fits (n m : Nat) : Prop := n + m ≤ 70368744177664

set_option maxHeartbeats 400000 in
theorem lay_any (l : List UInt8) (v : Value) (w : World) (hv : Bytes w v l) (hm : l.length ≤ 70368744177660) :
    Calls Try.prog 81 #[v] w fun e w' => ∃ v', e = .returned v' ∧ w'.ownsRow w.heap.size 5 1 v' (l.length + 4) (bv (Crc.lay l)) ∧ Below w.heap.size w w' := by
  have hs : SlR w v 1 l.length (bv l) := hv
  obtain ⟨x, cap, rfl, hc1, hc2⟩ := hs.shape
  have hc3 : cap ≤ 9223372036854775807 := by unfold maxLen at hc2; omega
  clear hc2
  generalize hn : l.length = n at *
  have HN := Lib.hid hn
  have HV := Lib.hid hv
  have HS := Lib.hid hs
  clear hn hv hs
  have hrows : Rows2 (w.alloc (.cells #[.slice x n cap] 57)) (.slice (some ⟨w.heap.size, 0, none⟩) 1 1) [l] := by
    refine ⟨[.slice x n cap], ownSl (World.ownsRow_lit (e := 57) (size := 1) (base := w.heap.size) w #[.slice x n cap] 1 (Nat.le_refl _) (by decide) rfl), ?_⟩
    intro i l' hl'
    have : i = 0 := by
      rcases Nat.eq_zero_or_pos i with h | h
      · exact h
      · rw [List.getElem?_eq_none (by simp; omega)] at hl'; cases hl'
    subst this
    simp only [List.getElem?_cons_zero, Option.some.injEq] at hl'
    subst hl'
    exact ⟨_, rfl, HV.out.keep ((Below.refl _ _).alloc (Nat.le_refl _) _)⟩
  have HR := Lib.hid hrows
  clear hrows
  go_enter Try.func81, Try.ntmps81
  go_wp2_with fail
  refine (sum_any [l] _ _ HR.out (by simp [HN.out, maxLen]; omega)).mono ?_
  rintro e w1 ⟨rfl, hb1⟩
  rw [List.flatten_singleton]
  have hb1' : Below w.heap.size w w1 := ((Below.refl _ w).alloc (Nat.le_refl _) _).trans (hb1.mono (by simp))
  have HB1 := Lib.hid hb1'
  have HS1 := Lib.hid (HS.out.keep hb1')
  clear hb1 hb1'
  have HBY := Lib.hid (byte_vals (Crc.sum l))
  have hsl := (Crc.sum l).isLt
  have hmade := World.ownsRow_made (e := 5) (size := 1) (base := w.heap.size) w1 (madeCells (Value.cells (.int .u8 0)) ((n + 4) * 1)) (n + 4) HB1.out.size (by unfold maxLen; omega) (size_madeCells _ _)
  have HM := Lib.hid hmade
  have HS2 := Lib.hid (HS1.out.keep ((Below.refl _ w1).alloc (Nat.le_refl _) (.cells (madeCells (Value.cells (.int .u8 0)) ((n + 4) * 1)) 5)))
  clear hmade
  have HB2 := Lib.hid (HB1.out.alloc HB1.out.size (.cells (madeCells (Value.cells (.int .u8 0)) ((n + 4) * 1)) 5))
  generalize hw2 : w1.alloc (.cells (madeCells (Value.cells (.int .u8 0)) ((n + 4) * 1)) 5) = w2 at *
  have HW2 := Lib.hid hw2
  have hsz : w1.heap.size < w2.heap.size := by rw [← hw2]; simp
  clear hw2
  have HL : Hid (Crc.lay l = l ++ Crc.bytes (Crc.sum l)) := rfl
  generalize Crc.sum l = sm at *
  go_wp2_with (first
    | (refine Agg.make ti25 _ _ rfl rfl 0 (n + 4) rfl rfl rfl (by omega) (by omega) (by omega) (by unfold maxLen; omega) ?_; rw [HW2.out]; simp only [Act.put, List.setIfInBounds_toArray, List.set_cons_succ, List.set_cons_zero])
    | (refine Agg.append ti25 (.tmp 11) (.tmp 12) rfl rfl w.heap.size (v := .slice (some ⟨w1.heap.size, 0, none⟩) 0 (n + 4)) rfl HM.out rfl HS2.out (bv_one l) (by unfold maxLen; omega) (by omega) HB2.out.size ?_; intro v' w3 ho hg hnil; simp only [Act.put, List.setIfInBounds_toArray, List.set_cons_succ, List.set_cons_zero]; have HO := Lib.hid ho; have HG := Lib.hid hg; clear ho hg hnil)
    | (refine Agg.append ti25 (.tmp 14) (.tmp 26) rfl rfl w.heap.size (v := v') rfl (HO.out.alloc _) rfl (ownSl (bytes_slice w3 _ (Crc.bytes sm) 4 HBY.out.symm rfl (by decide) w3.heap.size (Nat.le_refl _))) (bv_one _) (by unfold maxLen; omega) (by omega) (by have := HB2.out.size; have := HG.out.size; simp; omega) ?_; intro v'' w4 ho hg hnil; simp only [Act.put, List.setIfInBounds_toArray, List.set_cons_succ, List.set_cons_zero]; have HO2 := Lib.hid ho; have HG2 := Lib.hid hg; clear ho hg hnil))
  have e : [] ++ bv l ++ bv (Crc.bytes sm) = bv (l ++ Crc.bytes sm) := by rw [List.nil_append, bv_append]
  have hO := HO2.out
  rw [e] at hO
  have hown1 := HO.out
  refine bodyPost_ret (results_tmp rfl _ _ _) rfl ⟨v'', rfl, ?_, ?_⟩
  · rw [HL.out]
    simpa using hO
  · have b3 : Below w.heap.size w2 w3 := grown_below HG.out HB2.out.size (own_block HM.out)
    have hz : w.heap.size ≤ w3.heap.size := Nat.le_trans HB2.out.size HG.out.size
    exact HB2.out.trans (b3.trans (((Below.refl _ w3).alloc hz _).trans (grown_below HG2.out (by simp; omega) (own_block hown1))))

set_option maxHeartbeats 400000 in
theorem holds_any (l : List UInt8) (v : Value) (w : World) (hv : Bytes w v l) (b : Bool) (hb : b = (decide (4 ≤ l.length) && (Crc.sum l == 0#32))) :
    Calls Try.prog 85 #[v] w fun e w' => e = .returned (.bool b) ∧ Below w.heap.size w w' := by
  have hs : SlR w v 1 l.length (bv l) := hv
  obtain ⟨x, cap, rfl, hc1, hc2⟩ := hs.shape
  have hc3 : cap ≤ 9223372036854775807 := by unfold maxLen at hc2; omega
  clear hc2
  generalize hn : l.length = n at *
  have HN := Lib.hid hn
  have HV := Lib.hid hv
  clear hn hv hs
  have hrows : Rows2 (w.alloc (.cells #[.slice x n cap] 57)) (.slice (some ⟨w.heap.size, 0, none⟩) 1 1) [l] := by
    refine ⟨[.slice x n cap], ownSl (World.ownsRow_lit (e := 57) (size := 1) (base := w.heap.size) w #[.slice x n cap] 1 (Nat.le_refl _) (by decide) rfl), ?_⟩
    intro i l' hl'
    have : i = 0 := by
      rcases Nat.eq_zero_or_pos i with h | h
      · exact h
      · rw [List.getElem?_eq_none (by simp; omega)] at hl'; cases hl'
    subst this
    simp only [List.getElem?_cons_zero, Option.some.injEq] at hl'
    subst hl'
    exact ⟨_, rfl, HV.out.keep ((Below.refl _ _).alloc (Nat.le_refl _) _)⟩
  have HR := Lib.hid hrows
  clear hrows
  by_cases h4 : 4 ≤ n
  · have h4' : decide ((n : Int) ≥ 4) = true := by simp; omega
    have hsb : (((Crc.sum l).toNat : Int) == 0) = b := by
      rw [hb]
      simp only [h4, decide_true, Bool.true_and]
      by_cases h : Crc.sum l = 0#32
      · rw [h]; rfl
      · have h2 : ¬ ((Crc.sum l).toNat : Int) = 0 := fun e => h (BitVec.eq_of_toNat_eq (by simp; omega))
        rw [beq_false_of_ne h, beq_false_of_ne h2]
    clear hb
    have HSB := Lib.hid hsb
    clear hsb
    go_enter Try.func85, Try.ntmps85
    go_wp2_with fail
    refine (sum_any [l] _ _ HR.out (by simp [HN.out, maxLen]; omega)).mono ?_
    rintro e w1 ⟨rfl, hb1⟩
    rw [List.flatten_singleton]
    have hb1' : Below w.heap.size w w1 := ((Below.refl _ w).alloc (Nat.le_refl _) _).trans (hb1.mono (by simp))
    have HB1 := Lib.hid hb1'
    clear hb1 hb1'
    go_wp2_with fail
    go_ret
    exact ⟨by simp [← HSB.out], HB1.out⟩
  · have h4' : decide ((n : Int) ≥ 4) = false := by simp; omega
    have hbf : b = false := by rw [hb]; simp [h4]
    subst hbf
    clear hb
    go_enter Try.func85, Try.ntmps85
    go_wp2_with fail
    go_ret
    exact ⟨rfl, Below.refl _ _⟩

end Go.Proofs.Ytjnnnnolikbjcaa
