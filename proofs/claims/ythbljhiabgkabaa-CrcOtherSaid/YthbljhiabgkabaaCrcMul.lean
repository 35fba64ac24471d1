/-
  THE WALKS OF LAYER 15 (crc), third part: times, powers, Zeros, Join.
-/
import Derived.Test.YthbljhiabgkabaaCrcWalk
namespace Go.Proofs.Ythbljhiabgkabaa
open Go.ChangeShapes Go.WideShapes Go.ChangeAt Go.RowKit Agg

theorem bxor (s t : Crc.W) : bits .xor .u32 (s.toNat : Int) (t.toNat : Int) = ((s ^^^ t).toNat : Int) := by
  have := s.isLt; have := t.isLt
  rw [bits_xor .u32 _ _ rfl (by simpa [IntKind.bits] using s.isLt) (by simpa [IntKind.bits] using t.isLt), BitVec.toNat_xor]
theorem xt_hi (s : Crc.W) (h : s.toNat / 2147483648 = 1) : bits .xor .u32 ((s.toNat : Int) * 2 % 4294967296) 79764919 = ((Crc.xt s).toNat : Int) := by
  have hm : s.msb = true := by
    cases hb : s.msb
    · have := BitVec.msb_eq_false_iff_two_mul_lt.1 hb; omega
    · rfl
  have e : (s.toNat : Int) * (2 : Int) % (4294967296 : Int) = Int.ofNat (s <<< 1).toNat := by
    show _ = (((s <<< 1).toNat : Nat) : Int)
    rw [BitVec.toNat_shiftLeft, Nat.shiftLeft_eq]; omega
  have e2 : (79764919 : Int) = (Crc.poly.toNat : Int) := by decide
  rw [e, e2]
  show bits .xor .u32 (((s <<< 1).toNat : Nat) : Int) _ = _
  rw [bxor, Crc.xt, hm]; rfl
theorem xt_lo (s : Crc.W) (h : s.toNat / 2147483648 = 0) : (s.toNat : Int) * 2 % 4294967296 = ((Crc.xt s).toNat : Int) := by
  have hm : s.msb = false := BitVec.msb_eq_false_iff_two_mul_lt.2 (by omega)
  have e : (s.toNat : Int) * (2 : Int) % (4294967296 : Int) = Int.ofNat (s <<< 1).toNat := by
    show _ = (((s <<< 1).toNat : Nat) : Int)
    rw [BitVec.toNat_shiftLeft, Nat.shiftLeft_eq]; omega
  rw [e, Crc.xt, hm]; simp
theorem bit_and (b : Crc.W) (j : Nat) : bits .and .u32 ((b.toNat : Int) / 2 ^ j) 1 = if b.getLsbD j then 1 else 0 := by
  have hb := b.isLt
  have e : ((b.toNat : Int) / 2 ^ j) = ((b.toNat / 2 ^ j : Nat) : Int) := by rw [Int.natCast_ediv]; simp
  rw [e]
  show IntKind.u32.wrap ((BitVec.ofInt 32 ((b.toNat / 2 ^ j : Nat) : Int) &&& BitVec.ofInt 32 1).toNat : Int) = _
  have h1 : (BitVec.ofInt 32 1).toNat = 2 ^ 1 - 1 := by decide
  rw [BitVec.ofInt_natCast, BitVec.toNat_and, BitVec.toNat_ofNat, h1, Nat.and_two_pow_sub_one_eq_mod, wrap_u32]
  have h2 : b.toNat / 2 ^ j < 2 ^ 32 := Nat.lt_of_le_of_lt (Nat.div_le_self _ _) hb
  rw [Nat.mod_eq_of_lt h2, BitVec.getLsbD, Nat.testBit_eq_decide_div_mod_eq]
  by_cases h3 : b.toNat / 2 ^ j % 2 = 1
  · simp [h3]
  · have : b.toNat / 2 ^ j % 2 = 0 := by omega
    simp [this]

set_option maxHeartbeats 400000 in
theorem times_any (x y : Crc.W) (w : World) :
    Calls Try.prog 28 #[.int .u32 x.toNat, .int .u32 y.toNat] w fun e w' => e = .returned (.int .u32 (Crc.gmul x y).toNat) ∧ w = w' := by
  have HA : Hid (Crc.gmulTo x y 32 = Crc.gmul x y) := Crc.gmul_all x y
  have hx := x.isLt
  have hy := y.isLt
  go_enter Try.func28, Try.ntmps28
  go_wp2
  go_loop [5, 8] (fun o i => ∃ k : Nat, k ≤ 32 ∧ i = .int .i64 k ∧ o = .int .u32 (Crc.gmulTo x y k).toNat) (fun _ i => 32 - (intOf i).toNat)
  case atStart => exact ⟨0, by omega, rfl, rfl⟩
  case round =>
    obtain ⟨k, hk, rfl, rfl⟩ := hrel
    by_cases hlt : k < 32
    · have HS : Hid (Crc.gmulTo x y (k + 1) = Crc.xt (Crc.gmulTo x y k) ^^^ (bif y.getLsbD (31 - k) then x else 0#32)) := Crc.gmulTo_succ x y k hlt
      have hba := bit_and y (31 - k)
      generalize hnx : Crc.gmulTo x y (k + 1) = nxt at *
      have HX := Lib.hid hnx
      clear hnx
      generalize Crc.gmulTo x y k = t at *
      have ht := t.isLt
      have hbx := bxor (Crc.xt t) x
      have htd : t.toNat / 2147483648 = 0 ∨ t.toNat / 2147483648 = 1 := by omega
      rcases htd with htd | htd
      · have hm : ((t.toNat : Int) / 2147483648 == 1) = false := by simp; omega
        have hxt := xt_lo t htd
        clear htd
        cases hg : y.getLsbD (31 - k)
        · rw [hg] at hba HS
          simp only [Bool.false_eq_true, if_false] at hba
          clear hg
          go_wp2
          go_round
          case rel => exact ⟨k + 1, by omega, by go_num, by rw [HX.out, HS.out]; simp [hxt]⟩
          case measure => simp [intOf]; omega
        · rw [hg] at hba HS
          simp only [if_true] at hba
          clear hg
          go_wp2
          go_round
          case rel => exact ⟨k + 1, by omega, by go_num, by rw [HX.out, HS.out]; simp⟩
          case measure => simp [intOf]; omega
      · have hm : ((t.toNat : Int) / 2147483648 == 1) = true := by simp; omega
        have hxt := xt_hi t htd
        clear htd
        cases hg : y.getLsbD (31 - k)
        · rw [hg] at hba HS
          simp only [Bool.false_eq_true, if_false] at hba
          clear hg
          go_wp2
          go_round
          case rel => exact ⟨k + 1, by omega, by go_num, by rw [HX.out, HS.out]; simp⟩
          case measure => simp [intOf]; omega
        · rw [hg] at hba HS
          simp only [if_true] at hba
          clear hg
          go_wp2
          go_round
          case rel => exact ⟨k + 1, by omega, by go_num, by rw [HX.out, HS.out]; simp⟩
          case measure => simp [intOf]; omega
    · obtain rfl : k = 32 := by omega
      go_wp2
      go_ret
      exact ⟨ret_int (by rw [HA.out]), rfl⟩

theorem square_any (x : Crc.W) (w : World) :
    Calls Try.prog 30 #[.int .u32 x.toNat] w fun e w' => e = .returned (.int .u32 (Crc.gmul x x).toNat) ∧ w = w' := by
  go_enter Try.func30, Try.ntmps30
  go_wp2_with fail
  refine (times_any x x w).mono ?_
  rintro e w1 ⟨rfl, rfl⟩
  go_wp2_with fail
  go_ret
  exact ⟨rfl, rfl⟩
def pwV (i j : Nat) : Value := if j < i then .int .u32 (Crc.pw j).toNat else .int .u32 0
@[irreducible] def pwArr (i : Nat) : Array Value := ((List.range 41).map (pwV i)).toArray
theorem pwArr_size (i : Nat) : (pwArr i).size = 41 := by unfold pwArr; simp
theorem pwArr_one (i : Nat) : ∀ v ∈ (pwArr i).toList, v.oneCell' = true := by
  unfold pwArr
  intro v hv
  obtain ⟨j, _, rfl⟩ := List.mem_map.1 hv
  unfold pwV; split <;> rfl
theorem pwArr_zero : pwArr 0 = Array.replicate 41 (.int .u32 0) := by unfold pwArr; rfl
theorem pwArr_get (i j : Nat) (h : j < i) (hj : j < 41) : (pwArr i)[j]? = some (.int .u32 (Crc.pw j).toNat) := by
  unfold pwArr; simp [hj, pwV, h]
theorem pwArr_zero_get (i j : Nat) (h : ¬ j < i) (hj : j < 41) : (pwArr i)[j]? = some (.int .u32 0) := by
  unfold pwArr; simp [hj, pwV, h]
theorem pwArr_set (i : Nat) (hi : i < 41) : (pwArr i).setIfInBounds i (.int .u32 (Crc.pw i).toNat) = pwArr (i + 1) := by
  unfold pwArr
  rw [List.setIfInBounds_toArray]
  congr 1
  apply List.ext_getElem?
  intro j
  rw [List.getElem?_set]
  by_cases h : i = j
  · subst h; simp [hi, pwV]
  · simp only [h, if_false, List.getElem?_map]
    by_cases hj : j < 41
    · simp only [List.getElem?_range hj, Option.map_some, pwV]
      by_cases h2 : j < i
      · simp [h2, Nat.lt_succ_of_lt h2]
      · simp [h2, show ¬ j < i + 1 by omega]
    · simp [hj]

set_option maxHeartbeats 400000 in
theorem powers_any (w : World) :
    Calls Try.prog 27 #[] w fun e w' => e = .returned (.agg (pwArr 41)) ∧ Below w.heap.size w w' := by
  have h0 := pwArr_zero_get 0 0 (by omega) (by omega)
  have hs1 : (pwArr 0).setIfInBounds 0 (.int .u32 256) = pwArr 1 := pwArr_set 0 (by omega)
  go_enter Try.func27, Try.ntmps27
  go_wp2_with (refine Agg.allocRow 51 (pwArr 0) rfl rfl (by rw [pwArr_zero]; kernel_rfl) ?_; simp only [Act.put, List.setIfInBounds_toArray, List.set_cons_succ, List.set_cons_zero, World.size_alloc])
  clear h0 hs1
  go_loopw [3] (fun i wr => ∃ k : Nat, k < 41 ∧ i = .int .i64 ((k : Int) + 1) ∧ wr = (w.alloc (.cells (pwArr 0) 51)).alloc (.cells (pwArr (k + 1)) 51)) (fun i _ => 41 - (intOf i).toNat)
  case atStart => exact ⟨0, by omega, rfl, rfl⟩
  case round =>
    obtain ⟨k, hk, rfl, rfl⟩ := hrel
    by_cases hlt : k + 1 < 41
    · have h1 := pwArr_get (k + 1) k (by omega) hk
      have h2 := pwArr_zero_get (k + 1) (k + 1) (by omega) hlt
      have HS := Lib.hid (pwArr_set (k + 1) hlt)
      rw [Crc.pw_succ] at HS
      have hlt' : (k : Int) + 1 < 41 := by omega
      generalize Crc.pw k = p at *
      go_wp2_with (go_at_call 30; refine (square_any p _).mono ?_; rintro e w1 ⟨rfl, rfl⟩)
      rw [HS.out]
      go_roundw
      case rel => exact ⟨k + 1, by omega, by go_num, rfl⟩
      case measure => simp [intOf]; omega
    · obtain rfl : k = 40 := by omega
      have hg0 : ((w.alloc (.cells (pwArr 0) 51)).alloc (.cells (pwArr 41) 51)).heap[w.heap.size]? = some (.cells (pwArr 0) 51 (0, 0)) := heap_alloc2_old w _ _
      have hg1 : ((w.alloc (.cells (pwArr 0) 51)).alloc (.cells (pwArr 41) 51)).heap[w.heap.size + 1]? = some (.cells (pwArr 41) 51 (0, 0)) := heap_alloc2_new w _ _
      have hbw : Below w.heap.size w ((w.alloc (.cells (pwArr 0) 51)).alloc (.cells (pwArr 41) 51)) := ((Below.refl _ w).alloc (Nat.le_refl _) _).alloc (by simp) _
      generalize (w.alloc (.cells (pwArr 0) 51)).alloc (.cells (pwArr (40 + 1)) 51) = w1 at *
      have H0 := Lib.hid hg0
      have H1 := Lib.hid hg1
      have HB := Lib.hid hbw
      clear hg0 hg1 hbw
      go_wp2_with (first
        | (refine wpList_load_row rfl 51 _ rfl (w.heap.size + 1) rfl 51 (pwArr 41) (0, 0) (.array 41 23) H1.out (by kernel_rfl) rfl (by rw [pwArr_size]; kernel_rfl) ?_; simp only [Act.put, List.setIfInBounds_toArray, List.set_cons_succ, List.set_cons_zero])
        | (refine Agg.storeRow 51 51 (pwArr 0) (pwArr 41) w.heap.size _ _ rfl rfl rfl rfl H0.out (by rw [pwArr_size]; kernel_rfl) (by simp [pwArr_size]) (pwArr_one 41) ?_; simp only [Act.put]))
      refine bodyPost_ret (results_cell_row rfl _ _ w.heap.size 51 (pwArr 41) (0, 0) (.array 41 23) rfl (setRow_heap _ _ _ _ _ _ H0.out) (by kernel_rfl) rfl (by rw [pwArr_size]; kernel_rfl)) rfl ⟨rfl, ?_⟩
      exact HB.out.trans ⟨rfl, rfl, rfl, by simp, fun k hk => setRow_other _ _ _ _ (by omega)⟩

theorem low_bit (m : Nat) (hm : m < 2 ^ 62) : bits .and .i64 (m : Int) 1 = ((m % 2 : Nat) : Int) := by
  show IntKind.i64.wrap ((BitVec.ofInt 64 (m : Int) &&& BitVec.ofInt 64 1).toNat : Int) = _
  have h1 : (BitVec.ofInt 64 1).toNat = 2 ^ 1 - 1 := by decide
  have h2 : (m % 2 ^ 64) = m := Nat.mod_eq_of_lt (by omega)
  rw [BitVec.ofInt_natCast, BitVec.toNat_and, BitVec.toNat_ofNat, h1, Nat.and_two_pow_sub_one_eq_mod, h2]
  rw [IntKind.wrap_i64]; omega

set_option maxHeartbeats 400000 in
theorem zeros_any (s : Crc.W) (n : Nat) (w : World) (hn : n ≤ 1099511627776) :
    Calls Try.prog 19 #[.int .u32 s.toNat, .int .i64 n] w fun e w' => e = .returned (.tuple #[.int .u32 (Crc.zeros s n).toNat, .int .i64 0]) ∧ Below w.heap.size w w' := by
  have h1 : decide ((n : Int) < 0) = false := by simp
  have h2 : decide ((n : Int) > 1099511627776) = false := by simp; omega
  go_enter Try.func19, Try.ntmps19
  go_wp2_with fail
  go_step3
  go_wp2_with fail
  go_step3
  go_wp2_with fail
  refine (powers_any _).mono ?_
  rintro e w1 ⟨rfl, hb⟩
  have HB := Lib.hid hb
  clear hb
  go_wp2_with fail
  go_loopw [0, 15] (fun t i wr => wr = w1 ∧ ∃ k : Nat, k ≤ 41 ∧ i = .int .i64 k ∧ t = .int .u32 (Crc.zeros s (n % 2 ^ k)).toNat) (fun _ i _ => 41 - (intOf i).toNat)
  case atStart => exact ⟨rfl, 0, by omega, rfl, by simp [Nat.mod_one]; rfl⟩
  case round =>
    obtain ⟨rfl, k, hk, rfl, rfl⟩ := hrel
    have ed : ((n : Int) / 2 ^ k) = ((n / 2 ^ k : Nat) : Int) := by rw [Int.natCast_ediv]; simp
    have hlow := low_bit (n / 2 ^ k) (by have := Nat.div_le_self n (2 ^ k); omega)
    rw [← ed] at hlow
    by_cases hlt : k < 41
    · have hzs := Crc.zeros_step s n k
      have hpw := Lib.hid (pwArr_get 41 k hlt hlt)
      by_cases hz : n / 2 ^ k = 0
      · have hz1 : (((n : Int) / 2 ^ k) == 0) = true := by rw [ed, hz]; rfl
        have HE : Hid (Crc.zeros s (n % 2 ^ k) = Crc.zeros s n) := by
          show _ = _
          rw [Nat.mod_eq_of_lt]
          rcases Nat.lt_or_ge n (2 ^ k) with h | h
          · exact h
          · have := Nat.div_pos h (Nat.two_pow_pos k); omega
        clear hlow ed hzs hz
        go_wp2_with (refine Agg.index 51 23 41 (.int .u32) (pwArr 41) .i64 k _ _ _ rfl rfl rfl rfl (by kernel_rfl) (by kernel_rfl) rfl (by kernel_rfl) hlt hpw.out ?_; simp only [Act.put, List.setIfInBounds_toArray, List.set_cons_succ, List.set_cons_zero])
        rw [Exit.noGoto_ret]
        go_ret2
        exact ⟨by rw [HE.out]; rfl, HB.out⟩
      · have hz1 : (((n : Int) / 2 ^ k) == 0) = false := by rw [ed]; simp; omega
        by_cases hb : n / 2 ^ k % 2 = 1
        · rw [if_pos hb] at hzs
          rw [hb] at hlow
          have HZ := Lib.hid hzs
          clear ed hzs hz hb
          generalize Crc.zeros s (n % 2 ^ k) = t at *
          go_wp2_with (first | (refine Agg.index 51 23 41 (.int .u32) (pwArr 41) .i64 k _ _ _ rfl rfl rfl rfl (by kernel_rfl) (by kernel_rfl) rfl (by kernel_rfl) hlt hpw.out ?_; simp only [Act.put, List.setIfInBounds_toArray, List.set_cons_succ, List.set_cons_zero]) | (go_at_call 28; refine (times_any t _ _).mono ?_; rintro e w2 ⟨rfl, rfl⟩))
          go_roundw
          case rel => exact ⟨trivial, k + 1, by omega, by go_num, by rw [HZ.out]⟩
          case measure => simp [intOf]; omega
        · rw [if_neg hb] at hzs
          have hb0 : n / 2 ^ k % 2 = 0 := by omega
          rw [hb0] at hlow
          have HZ := Lib.hid hzs
          clear ed hzs hz hb hb0
          generalize Crc.zeros s (n % 2 ^ k) = t at *
          go_wp2_with (refine Agg.index 51 23 41 (.int .u32) (pwArr 41) .i64 k _ _ _ rfl rfl rfl rfl (by kernel_rfl) (by kernel_rfl) rfl (by kernel_rfl) hlt hpw.out ?_; simp only [Act.put, List.setIfInBounds_toArray, List.set_cons_succ, List.set_cons_zero])
          go_roundw
          case rel => exact ⟨trivial, k + 1, by omega, by go_num, by rw [HZ.out]⟩
          case measure => simp [intOf]; omega
    · obtain rfl : k = 41 := by omega
      have HE : Hid (Crc.zeros s (n % 2 ^ 41) = Crc.zeros s n) := by
        show _ = _
        rw [Nat.mod_eq_of_lt (by omega)]
      clear hlow ed
      go_wp2_with fail
      rw [Exit.noGoto_ret]
      go_ret2
      exact ⟨by rw [HE.out]; rfl, HB.out⟩

set_option maxHeartbeats 400000 in
theorem zeros_not (s : Crc.W) (n : Int) (w : World) (hn : n < 0 ∨ 1099511627776 < n) :
    Calls Try.prog 19 #[.int .u32 s.toNat, .int .i64 n] w fun e w' => e = .returned (.tuple #[.int .u32 0, .int .i64 2]) ∧ w = w' := by
  rcases hn with hn | hn
  · have h1 : decide (n < 0) = true := by simp; omega
    go_enter Try.func19, Try.ntmps19
    go_wp2_with fail
    go_step3
    go_wp2_with fail
    rw [Exit.noGoto_ret]
    go_ret2
    exact ⟨rfl, rfl⟩
  · have h1 : decide (n < 0) = false := by simp; omega
    have h2 : decide (n > 1099511627776) = true := by simp; omega
    go_enter Try.func19, Try.ntmps19
    go_wp2_with fail
    go_step3
    go_wp2_with fail
    rw [Exit.noGoto_ret]
    go_ret2
    exact ⟨rfl, rfl⟩

theorem not_u32 (s : Crc.W) : bits .xor .u32 IntKind.u32.max (s.toNat : Int) = ((~~~ s).toNat : Int) := by
  have e : IntKind.u32.max = ((BitVec.allOnes 32).toNat : Int) := by decide
  rw [e, bxor, BitVec.allOnes_xor]
set_option maxHeartbeats 400000 in
theorem join_any (s t : Crc.W) (n : Nat) (w : World) (hn : n ≤ 1099511627776) :
    Calls Try.prog 20 #[.int .u32 s.toNat, .int .u32 t.toNat, .int .i64 n] w fun e w' => e = .returned (.tuple #[.int .u32 (t ^^^ Crc.zeros (~~~ s) n).toNat, .int .i64 0]) ∧ Below w.heap.size w w' := by
  have hx := bxor t (Crc.zeros (~~~ s) n)
  have hno := not_u32 s
  generalize ~~~ s = s' at *
  go_enter Try.func20, Try.ntmps20
  go_wp2_with fail
  refine (zeros_any s' n _ hn).mono ?_
  rintro e w1 ⟨rfl, hb⟩
  have HB := Lib.hid hb
  clear hb
  generalize hz : Crc.zeros s' n = z at *
  have HZ := Lib.hid hz
  clear hz
  go_wp2_with fail
  go_ret2
  exact ⟨by rw [HZ.out]; simp, HB.out⟩
set_option maxHeartbeats 400000 in
theorem join_not (s t : Crc.W) (n : Int) (w : World) (hn : n < 0 ∨ 1099511627776 < n) :
    Calls Try.prog 20 #[.int .u32 s.toNat, .int .u32 t.toNat, .int .i64 n] w fun e w' => e = .returned (.tuple #[.int .u32 0, .int .i64 2]) ∧ w = w' := by
  have hno := not_u32 s
  generalize ~~~ s = s' at *
  go_enter Try.func20, Try.ntmps20
  go_wp2_with fail
  refine (zeros_not s' n _ hn).mono ?_
  rintro e w1 ⟨rfl, rfl⟩
  clear hn
  go_wp2_with fail
  go_ret2
  exact ⟨rfl, rfl⟩

end Go.Proofs.Ythbljhiabgkabaa
