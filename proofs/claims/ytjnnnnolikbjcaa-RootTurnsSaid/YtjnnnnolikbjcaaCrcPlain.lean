/-
  PLAIN LAWS OF LAYER 15 (crc): no Go, no program. Sums by 32 bits: the state is a BitVec 32; 'xt' is the step by one bit 0; 'feed' takes bits in, the highest first. Without conditions.
-/
namespace Crc

abbrev W := BitVec 32
def poly : W := 0x04c11db7#32
def top : W := 0x80000000#32
/-- times x -/
def xt (s : W) : W := (s <<< 1) ^^^ (bif s.msb then poly else 0#32)
def xts : Nat → W → W
  | 0, s => s
  | n + 1, s => xts n (xt s)

theorem xor_swap (a b c d : W) : (a ^^^ b) ^^^ (c ^^^ d) = (a ^^^ c) ^^^ (b ^^^ d) := by
  rw [BitVec.xor_assoc, BitVec.xor_assoc, ← BitVec.xor_assoc b c d, ← BitVec.xor_assoc c b d, BitVec.xor_comm b c]

theorem xt_xor (a b : W) : xt (a ^^^ b) = xt a ^^^ xt b := by
  unfold xt
  rw [xor_swap, BitVec.shiftLeft_xor_distrib, BitVec.msb_xor]
  congr 1
  cases a.msb <;> cases b.msb <;> simp
theorem xt_zero : xt 0#32 = 0#32 := by decide
theorem xts_xor (n : Nat) (a b : W) : xts n (a ^^^ b) = xts n a ^^^ xts n b := by
  induction n generalizing a b with
  | zero => rfl
  | succ n ih => simp only [xts, xt_xor, ih]
theorem xts_zero (n : Nat) : xts n 0#32 = 0#32 := by
  induction n with
  | zero => rfl
  | succ n ih => simp only [xts, xt_zero, ih]
theorem xts_add (m n : Nat) (s : W) : xts (m + n) s = xts n (xts m s) := by
  induction m generalizing s with
  | zero => simp [xts]
  | succ m ih => rw [Nat.add_right_comm]; simp only [xts, ih]

theorem xt_inj0 (s : W) (h : xt s = 0#32) : s = 0#32 := by
  unfold xt at h
  cases hm : s.msb
  · rw [hm] at h
    have h1 : s <<< 1 = 0#32 := by simpa using h
    apply BitVec.eq_of_toNat_eq
    have h2 := congrArg BitVec.toNat h1
    simp only [BitVec.toNat_shiftLeft, Nat.shiftLeft_eq, BitVec.toNat_ofNat] at h2
    have h3 : s.toNat < 2 ^ 31 := by
      have := BitVec.msb_eq_false_iff_two_mul_lt.1 hm
      omega
    simp only [BitVec.toNat_ofNat]
    omega
  · rw [hm] at h
    have h1 : s <<< 1 = poly := by
      have := congrArg (· ^^^ poly) h
      simpa [BitVec.xor_assoc] using this
    have h2 := congrArg (fun x : W => x.getLsbD 0) h1
    simp [poly] at h2
theorem xts_inj0 (n : Nat) (s : W) (h : xts n s = 0#32) : s = 0#32 := by
  induction n generalizing s with
  | zero => exact h
  | succ n ih => exact xt_inj0 s (ih _ h)
theorem xor_eq_zero {a b : W} (h : a ^^^ b = 0#32) : a = b := by
  have := congrArg (· ^^^ b) h
  simpa [BitVec.xor_assoc] using this
theorem xts_inj (n : Nat) (a b : W) (h : xts n a = xts n b) : a = b := by
  apply xor_eq_zero
  apply xts_inj0 n
  rw [xts_xor, h, BitVec.xor_self]

/-- the step by a bit -/
def bit (s : W) (b : Bool) : W := xt (s ^^^ (bif b then top else 0#32))
def feed (s : W) (l : List Bool) : W := l.foldl bit s

theorem feed_nil (s : W) : feed s [] = s := rfl
theorem feed_cons (s : W) (b : Bool) (l : List Bool) : feed s (b :: l) = feed (bit s b) l := rfl
theorem feed_append (s : W) (l m : List Bool) : feed s (l ++ m) = feed (feed s l) m := List.foldl_append
theorem bit_xor (s t : W) (a b : Bool) : bit (s ^^^ t) (a ^^ b) = bit s a ^^^ bit t b := by
  unfold bit
  rw [← xt_xor, ← xor_swap]
  congr 2
  cases a <;> cases b <;> simp
theorem bit_false (s : W) : bit s false = xt s := by simp [bit]
theorem bit_split (s : W) (b : Bool) : bit s b = xt s ^^^ bit 0#32 b := by
  have := bit_xor s 0#32 false b
  rw [bit_false] at this
  simpa using this
/-- feeding is affine: the state's part and the bits' part -/
theorem feed_split (s : W) (l : List Bool) : feed s l = xts l.length s ^^^ feed 0#32 l := by
  induction l generalizing s with
  | nil => simp [feed, xts]
  | cons b l ih =>
    rw [feed_cons, feed_cons, ih, ih (bit 0#32 b), bit_split s b, xts_xor, List.length_cons, xts, BitVec.xor_assoc]
theorem feed_zeros (s : W) (n : Nat) : feed s (List.replicate n false) = xts n s := by
  induction n generalizing s with
  | zero => rfl
  | succ n ih => rw [List.replicate_succ, feed_cons, bit_false, ih, xts]
theorem feed_xor (s t : W) (l m : List Bool) (h : l.length = m.length) : feed (s ^^^ t) (List.zipWith (· ^^ ·) l m) = feed s l ^^^ feed t m := by
  induction l generalizing s t m with
  | nil => cases m with
    | nil => rfl
    | cons => simp at h
  | cons a l ih => cases m with
    | nil => simp at h
    | cons b m =>
      rw [List.zipWith_cons_cons, feed_cons, feed_cons, feed_cons, bit_xor]
      exact ih _ _ m (by simpa using h)

/-- n bits of a number, the highest first -/
def bitsN : Nat → Nat → List Bool
  | 0, _ => []
  | n + 1, c => (c / 2 ^ n % 2 == 1) :: bitsN n c
theorem bitsN_length (n c : Nat) : (bitsN n c).length = n := by induction n <;> simp [bitsN, *]
def bits8 (c : UInt8) : List Bool := bitsN 8 c.toNat
def bitsOf (l : List UInt8) : List Bool := l.flatMap bits8
theorem bits8_length (c : UInt8) : (bits8 c).length = 8 := bitsN_length _ _
theorem bitsOf_length (l : List UInt8) : (bitsOf l).length = 8 * l.length := by
  induction l with
  | nil => rfl
  | cons c l ih => rw [bitsOf, List.flatMap_cons, List.length_append, bits8_length]; rw [bitsOf] at ih; rw [ih, List.length_cons]; omega
theorem bitsOf_append (l m : List UInt8) : bitsOf (l ++ m) = bitsOf l ++ bitsOf m := List.flatMap_append
theorem bitsOf_cons (c : UInt8) (l : List UInt8) : bitsOf (c :: l) = bits8 c ++ bitsOf l := List.flatMap_cons

/-- MORE and SUM -/
def more (s : W) (l : List UInt8) : W := feed s (bitsOf l)
def ones : W := 0xffffffff#32
def sum (l : List UInt8) : W := more ones l
theorem more_append (s : W) (l m : List UInt8) : more s (l ++ m) = more (more s l) m := by rw [more, bitsOf_append, feed_append]; rfl
theorem more_nil (s : W) : more s [] = s := rfl
theorem more_cons (s : W) (c : UInt8) (l : List UInt8) : more s (c :: l) = more (feed s (bits8 c)) l := by rw [more, bitsOf_cons, feed_append]; rfl
theorem more_split (s : W) (l : List UInt8) : more s l = xts (8 * l.length) s ^^^ more 0#32 l := by rw [more, feed_split, bitsOf_length]; rfl

/-! ### the program's steps: half a byte by a table -/
def tab : List Nat := [0x00000000, 0x04c11db7, 0x09823b6e, 0x0d4326d9, 0x130476dc, 0x17c56b6b, 0x1a864db2, 0x1e475005, 0x2608edb8, 0x22c9f00f, 0x2f8ad6d6, 0x2b4bcb61, 0x350c9b64, 0x31cd86d3, 0x3c8ea00a, 0x384fbdbd]
def half (s : W) (n : Nat) : W := (s <<< 4) ^^^ BitVec.ofNat 32 (tab.getD ((s.toNat / 2 ^ 28) ^^^ n) 0)

theorem xts4_low (s : W) (h : s.toNat < 2 ^ 28) : xts 4 s = s <<< 4 := by
  have key : ∀ (t : W), t.toNat < 2 ^ 31 → xt t = t <<< 1 := fun t ht => by
    have hm : t.msb = false := BitVec.msb_eq_false_iff_two_mul_lt.2 (by omega)
    simp [xt, hm]
  have sh : ∀ (t : W) (k : Nat), t.toNat < 2 ^ k → k < 32 → (t <<< 1).toNat < 2 ^ (k + 1) := fun t k ht hk => by
    rw [BitVec.toNat_shiftLeft, Nat.shiftLeft_eq]
    have : 2 ^ (k + 1) ≤ 2 ^ 32 := Nat.pow_le_pow_right (by omega) (by omega)
    rw [Nat.pow_succ] at *
    rw [Nat.mod_eq_of_lt (by omega)]; omega
  simp only [xts]
  have h1 := sh s 28 h (by omega)
  have h2 := sh _ 29 h1 (by omega)
  have h3 := sh _ 30 h2 (by omega)
  rw [key s (by omega), key (s <<< 1) (by omega), key (s <<< 1 <<< 1) (by omega), key (s <<< 1 <<< 1 <<< 1) h3]
  simp [← BitVec.shiftLeft_add]
theorem tab_ok : ∀ n : Fin 16, xts 4 (BitVec.ofNat 32 (n.val * 2 ^ 28)) = BitVec.ofNat 32 (tab.getD n.val 0) := by decide
theorem top_nib : ∀ n : Fin 16, feed 0#32 (bitsN 4 n.val) = BitVec.ofNat 32 (tab.getD n.val 0) := by decide
theorem tab_xor : ∀ a b : Fin 16, BitVec.ofNat 32 (tab.getD (a.val ^^^ b.val) 0) = BitVec.ofNat 32 (tab.getD a.val 0) ^^^ BitVec.ofNat 32 (tab.getD b.val 0) := by decide
theorem half_feed (s : W) (n : Nat) (hn : n < 16) : half s n = feed s (bitsN 4 n) := by
  have hs := s.isLt
  have hq : s.toNat / 2 ^ 28 < 16 := by omega
  have e : s = BitVec.ofNat 32 (s.toNat / 2 ^ 28 * 2 ^ 28) ^^^ BitVec.ofNat 32 (s.toNat % 2 ^ 28) := by
    apply BitVec.eq_of_getLsbD_eq
    intro i hi
    rw [BitVec.getLsbD_xor, BitVec.getLsbD_ofNat, BitVec.getLsbD_ofNat]
    simp only [hi, decide_true, Bool.true_and, Nat.testBit_mul_two_pow, Nat.testBit_mod_two_pow, Nat.testBit_div_two_pow]
    by_cases h : i < 28
    · simp [h, BitVec.getLsbD, Nat.not_le.2 h]
    · simp [h, BitVec.getLsbD, Nat.not_lt.1 h]
  have lowlt : (BitVec.ofNat 32 (s.toNat % 2 ^ 28)).toNat < 2 ^ 28 := by rw [BitVec.toNat_ofNat]; omega
  have esh : s <<< 4 = BitVec.ofNat 32 (s.toNat % 2 ^ 28) <<< 4 := by
    apply BitVec.eq_of_toNat_eq
    simp only [BitVec.toNat_shiftLeft, Nat.shiftLeft_eq, BitVec.toNat_ofNat]
    omega
  rw [feed_split, bitsN_length, top_nib ⟨n, hn⟩]
  have e2 : xts 4 s = BitVec.ofNat 32 (tab.getD (s.toNat / 2 ^ 28) 0) ^^^ (s <<< 4) := by
    conv => lhs; rw [e]
    rw [xts_xor, tab_ok ⟨_, hq⟩, xts4_low _ lowlt, esh]
  rw [e2]
  unfold half
  rw [tab_xor ⟨_, hq⟩ ⟨n, hn⟩]
  simp only []
  rw [BitVec.xor_comm (BitVec.ofNat 32 (tab.getD (s.toNat / 2 ^ 28) 0)) (s <<< 4), BitVec.xor_assoc]

theorem bits8_halves : ∀ c : Nat, bitsN 8 c = bitsN 4 (c / 16) ++ bitsN 4 (c % 16) := by
  intro c
  simp only [bitsN, List.cons_append, List.nil_append]
  have h : ∀ k, k < 4 → c % 16 / 2 ^ k % 2 = c / 2 ^ k % 2 := by
    intro k hk
    have : k = 0 ∨ k = 1 ∨ k = 2 ∨ k = 3 := by omega
    rcases this with rfl | rfl | rfl | rfl <;> simp <;> omega
  rw [h 0 (by omega), h 1 (by omega), h 2 (by omega), h 3 (by omega)]
  simp only [Nat.div_div_eq_div_mul]
def take (s : W) (c : UInt8) : W := half (half s (c.toNat / 16)) (c.toNat % 16)
theorem take_feed (s : W) (c : UInt8) : take s c = feed s (bits8 c) := by
  have := c.toNat_lt
  rw [take, half_feed _ _ (by omega), half_feed _ _ (by omega), ← feed_append, bits8, bits8_halves]
theorem more_takes (s : W) (l : List UInt8) : more s l = l.foldl take s := by
  induction l generalizing s with
  | nil => rfl
  | cons c l ih => rw [more_cons, ih, List.foldl_cons, take_feed]

/-! ### products of remainders -/
theorem lin_ext (f g : W → W) (hf : ∀ a b, f (a ^^^ b) = f a ^^^ f b) (hg : ∀ a b, g (a ^^^ b) = g a ^^^ g b) (h : ∀ i : Fin 32, f (BitVec.ofNat 32 (2 ^ i.val)) = g (BitVec.ofNat 32 (2 ^ i.val))) (s : W) : f s = g s := by
  have z : ∀ (f : W → W), (∀ a b, f (a ^^^ b) = f a ^^^ f b) → f 0#32 = 0#32 := fun f hf => by
    have := hf 0#32 0#32
    rw [BitVec.xor_self, BitVec.xor_self] at this
    exact this
  have key : ∀ k, k ≤ 32 → ∀ s : W, s.toNat < 2 ^ k → f s = g s := by
    intro k
    induction k with
    | zero =>
      intro _ s hs
      have : s = 0#32 := BitVec.eq_of_toNat_eq (by simp; omega)
      rw [this, z f hf, z g hg]
    | succ k ih =>
      intro hk s hs
      by_cases hb : s.toNat < 2 ^ k
      · exact ih (by omega) s hb
      · have e : s = BitVec.ofNat 32 (2 ^ k) ^^^ BitVec.ofNat 32 (s.toNat % 2 ^ k) := by
          have hbit : s.toNat.testBit k = true := by
            rw [Nat.testBit_eq_decide_div_mod_eq]
            have : s.toNat / 2 ^ k = 1 := by
              rw [Nat.pow_succ] at hs
              apply Nat.div_eq_of_lt_le <;> omega
            simp [this]
          apply BitVec.eq_of_getLsbD_eq
          intro i hi
          rw [BitVec.getLsbD_xor, BitVec.getLsbD_ofNat, BitVec.getLsbD_ofNat]
          simp only [hi, decide_true, Bool.true_and, Nat.testBit_two_pow, Nat.testBit_mod_two_pow]
          by_cases h1 : i = k
          · subst h1; simp [BitVec.getLsbD, hbit]
          · by_cases h2 : i < k
            · simp [BitVec.getLsbD, h2, Ne.symm h1]
            · have : s.toNat.testBit i = false := Nat.testBit_lt_two_pow (Nat.lt_of_lt_of_le hs (Nat.pow_le_pow_right (by omega) (by omega)))
              simp [BitVec.getLsbD, h2, Ne.symm h1, this]
        have hlow : (BitVec.ofNat 32 (s.toNat % 2 ^ k)).toNat < 2 ^ k := by
          rw [BitVec.toNat_ofNat]
          exact Nat.lt_of_le_of_lt (Nat.mod_le _ _) (Nat.mod_lt _ (Nat.two_pow_pos k))
        rw [e, hf, hg, h ⟨k, by omega⟩, ih (by omega) _ hlow]
  exact key 32 (by omega) s (by have := s.isLt; omega)

/-- by Horner: the highest digit first -/
def hornerStep (a : W) (o : W) (b : Bool) : W := xt o ^^^ (bif b then a else 0#32)
def horner (a o : W) (l : List Bool) : W := l.foldl (hornerStep a) o
def gbits (b : W) : List Bool := (List.range 32).map fun k => b.getLsbD (31 - k)
/-- times(a, b) behind k rounds -/
def gmulTo (a b : W) (k : Nat) : W := horner a 0#32 ((gbits b).take k)
def gmul (a b : W) : W := horner a 0#32 (gbits b)
theorem gmul_all (a b : W) : gmulTo a b 32 = gmul a b := by
  unfold gmulTo gmul; rw [List.take_of_length_le (by simp [gbits])]
theorem gmulTo_succ (a b : W) (k : Nat) (hk : k < 32) : gmulTo a b (k + 1) = xt (gmulTo a b k) ^^^ (bif b.getLsbD (31 - k) then a else 0#32) := by
  unfold gmulTo horner
  rw [List.take_succ_eq_append_getElem (by simp [gbits, hk]), List.foldl_append]
  simp [gbits, hornerStep]
theorem horner_xor (a o o' : W) (l m : List Bool) (h : l.length = m.length) : horner a (o ^^^ o') (List.zipWith (· ^^ ·) l m) = horner a o l ^^^ horner a o' m := by
  induction l generalizing o o' m with
  | nil => cases m with
    | nil => rfl
    | cons => simp at h
  | cons x l ih => cases m with
    | nil => simp at h
    | cons y m =>
      have : hornerStep a (o ^^^ o') (x ^^ y) = hornerStep a o x ^^^ hornerStep a o' y := by
        unfold hornerStep
        rw [xt_xor, xor_swap (xt o) _ (xt o')]
        congr 1
        cases x <;> cases y <;> simp
      simp only [List.zipWith_cons_cons, horner, List.foldl_cons] at *
      rw [this]
      exact ih _ _ m (by simpa using h)
theorem horner_xor_a (a a' o o' : W) (l : List Bool) : horner (a ^^^ a') (o ^^^ o') l = horner a o l ^^^ horner a' o' l := by
  induction l generalizing o o' with
  | nil => rfl
  | cons x l ih =>
    have : hornerStep (a ^^^ a') (o ^^^ o') x = hornerStep a o x ^^^ hornerStep a' o' x := by
      unfold hornerStep
      rw [xt_xor, xor_swap (xt o) _ (xt o')]
      congr 1
      cases x <;> simp
    simp only [horner, List.foldl_cons] at *
    rw [this]
    exact ih _ _
theorem horner_zeros (a o : W) (n : Nat) : horner a o (List.replicate n false) = xts n o := by
  induction n generalizing o with
  | zero => rfl
  | succ n ih =>
    rw [List.replicate_succ]
    show horner a (hornerStep a o false) _ = _
    rw [ih]; simp [hornerStep, xts]
theorem gbits_xor (b b' : W) : gbits (b ^^^ b') = List.zipWith (· ^^ ·) (gbits b) (gbits b') := by
  unfold gbits
  rw [List.zipWith_map]
  simp [BitVec.getLsbD_xor]
theorem gmul_xor (a b b' : W) : gmul a (b ^^^ b') = gmul a b ^^^ gmul a b' := by
  unfold gmul
  rw [gbits_xor]
  have := horner_xor a 0#32 0#32 (gbits b) (gbits b') (by simp [gbits])
  simpa using this
theorem gmul_xor_a (a a' b : W) : gmul (a ^^^ a') b = gmul a b ^^^ gmul a' b := by
  unfold gmul
  have := horner_xor_a a a' 0#32 0#32 (gbits b)
  simpa using this
theorem gbits_pow : ∀ i : Fin 32, gbits (BitVec.ofNat 32 (2 ^ i.val)) = List.replicate (31 - i.val) false ++ (true :: List.replicate i.val false) := by decide
theorem gmul_pow (a : W) (i : Fin 32) : gmul a (BitVec.ofNat 32 (2 ^ i.val)) = xts i.val a := by
  unfold gmul
  rw [gbits_pow]
  have h : ∀ l m : List Bool, ∀ o, horner a o (l ++ m) = horner a (horner a o l) m := fun l m o => List.foldl_append
  rw [h, horner_zeros, xts_zero]
  show horner a (hornerStep a 0#32 true) _ = _
  rw [horner_zeros]
  simp [hornerStep, xt_zero]
theorem xt_pow : ∀ i : Fin 31, xt (BitVec.ofNat 32 (2 ^ i.val)) = BitVec.ofNat 32 (2 ^ (i.val + 1)) := by decide
theorem xt_last : xt (BitVec.ofNat 32 (2 ^ 31)) = poly := by decide
theorem poly_all : ∀ i : Fin 32, gmul (BitVec.ofNat 32 (2 ^ i.val)) poly = xts 32 (BitVec.ofNat 32 (2 ^ i.val)) := by decide +kernel
theorem gmul_poly (a : W) : gmul a poly = xts 32 a :=
  lin_ext (fun a => gmul a poly) (xts 32) (fun _ _ => gmul_xor_a _ _ _) (fun _ _ => xts_xor 32 _ _) poly_all a
theorem xts_succ' (n : Nat) (s : W) : xts (n + 1) s = xt (xts n s) := by rw [xts_add n 1 s]; rfl
theorem gmul_xt (a b : W) : gmul a (xt b) = xt (gmul a b) := by
  refine lin_ext (fun b => gmul a (xt b)) (fun b => xt (gmul a b)) (fun x y => by simp only [xt_xor, gmul_xor]) (fun x y => by simp only [xt_xor, gmul_xor]) (fun i => ?_) b
  simp only [gmul_pow]
  by_cases h : i.val < 31
  · rw [xt_pow ⟨i.val, h⟩, gmul_pow a ⟨i.val + 1, by omega⟩]
    exact xts_succ' _ _
  · have : i.val = 31 := by omega
    rw [this, xt_last, gmul_poly]
    exact xts_succ' 31 a
def one : W := 1#32
theorem gmul_one (a : W) : gmul a one = a := gmul_pow a ⟨0, by omega⟩
theorem gmul_xts (a : W) (k : Nat) : gmul a (xts k one) = xts k a := by
  induction k with
  | zero => exact gmul_one a
  | succ k ih => rw [xts_succ', gmul_xt, ih, ← xts_succ']
/-- x to the power of 8, 16, 32 .. -/
def pw (i : Nat) : W := xts (8 * 2 ^ i) one
theorem pw_zero : pw 0 = 256#32 := by decide
theorem pw_succ (i : Nat) : pw (i + 1) = gmul (pw i) (pw i) := by
  conv => rhs; rhs; unfold pw
  rw [gmul_xts]
  unfold pw
  rw [← xts_add, Nat.pow_succ]
  congr 1
  omega
theorem gmul_pw (s : W) (i : Nat) : gmul s (pw i) = xts (8 * 2 ^ i) s := gmul_xts s _
/-- ZEROS -/
def zeros (s : W) (n : Nat) : W := xts (8 * n) s
theorem zeros_step (s : W) (n i : Nat) : zeros s (n % 2 ^ (i + 1)) = if n / 2 ^ i % 2 = 1 then gmul (zeros s (n % 2 ^ i)) (pw i) else zeros s (n % 2 ^ i) := by
  have e : n % 2 ^ (i + 1) = n % 2 ^ i + 2 ^ i * (n / 2 ^ i % 2) := Nat.mod_pow_succ
  split
  · rename_i h
    rw [gmul_pw, zeros, zeros, ← xts_add, e, h]
    congr 1
    omega
  · rename_i h
    have : n / 2 ^ i % 2 = 0 := by omega
    rw [e, this]; simp
theorem zeros_more (s : W) (n : Nat) : zeros s n = more s (List.replicate n 0) := by
  induction n generalizing s with
  | zero => rfl
  | succ n ih =>
    rw [List.replicate_succ, more_cons, ← ih]
    have : bits8 0 = List.replicate 8 false := by decide
    rw [this, feed_zeros, zeros, zeros, ← xts_add]
    congr 1; omega
theorem zeros_add (s : W) (m n : Nat) : zeros (zeros s m) n = zeros s (m + n) := by
  rw [zeros, zeros, zeros, ← xts_add]; congr 1; omega
theorem zeros_succ (s : W) (m : Nat) : zeros s (m + 1) = more (zeros s m) [0] := by
  rw [← zeros_add, zeros_more (zeros s m) 1]; rfl
/-- JOIN -/
theorem join_sum (x y : List UInt8) : sum y ^^^ zeros (~~~ (sum x)) y.length = sum (x ++ y) := by
  have o : ones = BitVec.allOnes 32 := by decide
  have e : ∀ t : W, ~~~ t = ones ^^^ t := fun t => by rw [o, BitVec.allOnes_xor]
  rw [sum, sum, sum, more_append, more_split ones y, more_split (more ones x) y, zeros, e, xts_xor]
  generalize xts (8 * y.length) ones = a
  generalize more 0#32 y = b
  generalize xts (8 * y.length) (more ones x) = c
  rw [← BitVec.xor_assoc, BitVec.xor_comm a b, BitVec.xor_assoc b a a, BitVec.xor_self, BitVec.xor_zero, BitVec.xor_comm]

/-! ### bytes with their sum; damage -/
theorem xt_low (t : W) (ht : t.toNat < 2 ^ 31) : xt t = t <<< 1 := by
  have hm : t.msb = false := BitVec.msb_eq_false_iff_two_mul_lt.2 (by omega)
  simp [xt, hm]
theorem feed_bitsN (k : Nat) (hk : k ≤ 32) (s : W) (c : Nat) : feed s (bitsN k c) = xts k (s ^^^ (BitVec.ofNat 32 (c % 2 ^ k * 2 ^ (32 - k)))) := by
  induction k generalizing s with
  | zero => simp [bitsN, feed, xts, Nat.mod_one]
  | succ k ih =>
    rw [bitsN, feed_cons, ih (by omega), xts]
    congr 1
    rw [bit, xt_xor, xt_xor, BitVec.xor_assoc]
    congr 1
    have e : BitVec.ofNat 32 (c % 2 ^ (k + 1) * 2 ^ (32 - (k + 1))) = (bif c / 2 ^ k % 2 == 1 then top else 0#32) ^^^ BitVec.ofNat 32 (c % 2 ^ k * 2 ^ (31 - k)) := by
      have hlt : c % 2 ^ k * 2 ^ (31 - k) < 2 ^ 31 := by
        have h1 : c % 2 ^ k < 2 ^ k := Nat.mod_lt _ (Nat.two_pow_pos k)
        have h2 : 2 ^ k * 2 ^ (31 - k) = 2 ^ 31 := by rw [← Nat.pow_add]; congr 1; omega
        calc c % 2 ^ k * 2 ^ (31 - k) < 2 ^ k * 2 ^ (31 - k) := Nat.mul_lt_mul_of_pos_right h1 (Nat.two_pow_pos _)
          _ = 2 ^ 31 := h2
      rw [Nat.mod_pow_succ, Nat.add_mul, show 32 - (k + 1) = 31 - k by omega]
      have h3 : 2 ^ k * (c / 2 ^ k % 2) * 2 ^ (31 - k) = 2 ^ 31 * (c / 2 ^ k % 2) := by
        rw [Nat.mul_right_comm, ← Nat.pow_add, show k + (31 - k) = 31 by omega]
      rw [h3]
      generalize c % 2 ^ k * 2 ^ (31 - k) = m at hlt
      have hb : c / 2 ^ k % 2 = 0 ∨ c / 2 ^ k % 2 = 1 := by omega
      rcases hb with hb | hb
      · rw [hb]; simp
      · rw [hb]
        apply BitVec.eq_of_toNat_eq
        rw [BitVec.toNat_xor]
        simp only [beq_self_eq_true, cond_true, top, BitVec.toNat_ofNat]
        have h4 := Nat.two_pow_add_eq_or_of_lt hlt 1
        have h5 : 2 ^ 31 ^^^ m = 2 ^ 31 ||| m := by
          apply Nat.eq_of_testBit_eq
          intro i
          rw [Nat.testBit_xor, Nat.testBit_or, Nat.testBit_two_pow]
          by_cases hi : 31 = i
          · subst hi; simp [Nat.testBit_lt_two_pow hlt]
          · simp [hi]
        have h6 : m % 2 ^ 32 = m := Nat.mod_eq_of_lt (by omega)
        rw [show (2147483648 % 2 ^ 32) = 2 ^ 31 from rfl, h6, h5, ← Nat.mul_one (2 ^ 31), ← h4, Nat.mul_one]
        omega
    rw [e, xt_xor]
    congr 1
    rw [xt_low]
    · apply BitVec.eq_of_toNat_eq
      rw [BitVec.toNat_shiftLeft, Nat.shiftLeft_eq, BitVec.toNat_ofNat, BitVec.toNat_ofNat]
      have : 2 ^ (32 - k) = 2 ^ (31 - k) * 2 := by rw [← Nat.pow_succ]; congr 1; omega
      rw [this, ← Nat.mul_assoc]
      omega
    · rw [BitVec.toNat_ofNat]
      have h1 : c % 2 ^ k < 2 ^ k := Nat.mod_lt _ (Nat.two_pow_pos k)
      have h2 : 2 ^ k * 2 ^ (31 - k) = 2 ^ 31 := by rw [← Nat.pow_add]; congr 1; omega
      have : c % 2 ^ k * 2 ^ (31 - k) < 2 ^ k * 2 ^ (31 - k) := Nat.mul_lt_mul_of_pos_right h1 (Nat.two_pow_pos _)
      omega
theorem feed_word (s : W) (c : Nat) (hc : c < 2 ^ 32) : feed s (bitsN 32 c) = xts 32 (s ^^^ BitVec.ofNat 32 c) := by
  rw [feed_bitsN 32 (by omega), Nat.mod_eq_of_lt hc]; simp

/-- the bytes of a sum -/
def bytes (s : W) : List UInt8 := [UInt8.ofNat (s.toNat / 16777216), UInt8.ofNat (s.toNat / 65536 % 256), UInt8.ofNat (s.toNat / 256 % 256), UInt8.ofNat (s.toNat % 256)]
def pack (l : List UInt8) : Nat := l.foldl (fun n c => n * 256 + c.toNat) 0
theorem bitsN_mod (n c m : Nat) (h : n ≤ m) : bitsN n (c % 2 ^ m) = bitsN n c := by
  induction n with
  | zero => rfl
  | succ n ih =>
    rw [bitsN, bitsN, ih (by omega)]
    congr 2
    have : 2 ^ m = 2 ^ n * 2 ^ (m - n) := by rw [← Nat.pow_add]; congr 1; omega
    rw [this, Nat.mod_mul_right_div_self]
    have h2 : 2 ^ (m - n) = 2 * 2 ^ (m - n - 1) := by rw [← Nat.pow_succ']; congr 1; omega
    rw [h2, Nat.mod_mul_right_mod]
theorem bitsN_append (n m c : Nat) : bitsN (n + m) c = bitsN n (c / 2 ^ m) ++ bitsN m c := by
  induction n with
  | zero => simp [bitsN]
  | succ n ih =>
    rw [Nat.add_right_comm, bitsN, ih, bitsN, List.cons_append]
    congr 2
    rw [Nat.div_div_eq_div_mul, ← Nat.pow_add, Nat.add_comm m n]
theorem bitsOf_four (a b c d : UInt8) : bitsOf [a, b, c, d] = bitsN 32 (pack [a, b, c, d]) := by
  have ha := a.toNat_lt; have hb := b.toNat_lt; have hc := c.toNat_lt; have hd := d.toNat_lt
  simp only [bitsOf, List.flatMap_cons, List.flatMap_nil, List.append_nil, bits8, pack, List.foldl_cons, List.foldl_nil]
  have e1 : bitsN 8 d.toNat = bitsN 8 ((((0 * 256 + a.toNat) * 256 + b.toNat) * 256 + c.toNat) * 256 + d.toNat) := by
    rw [← bitsN_mod 8 ((((0 * 256 + a.toNat) * 256 + b.toNat) * 256 + c.toNat) * 256 + d.toNat) 8 (by omega)]; congr 1; omega
  have e2 : bitsN 8 c.toNat = bitsN 8 (((((0 * 256 + a.toNat) * 256 + b.toNat) * 256 + c.toNat) * 256 + d.toNat) / 2 ^ 8) := by
    rw [← bitsN_mod 8 (((((0 * 256 + a.toNat) * 256 + b.toNat) * 256 + c.toNat) * 256 + d.toNat) / 2 ^ 8) 8 (by omega)]; congr 1; omega
  have e3 : bitsN 8 b.toNat = bitsN 8 (((((0 * 256 + a.toNat) * 256 + b.toNat) * 256 + c.toNat) * 256 + d.toNat) / 2 ^ 16) := by
    rw [← bitsN_mod 8 (((((0 * 256 + a.toNat) * 256 + b.toNat) * 256 + c.toNat) * 256 + d.toNat) / 2 ^ 16) 8 (by omega)]; congr 1; omega
  have e4 : bitsN 8 a.toNat = bitsN 8 (((((0 * 256 + a.toNat) * 256 + b.toNat) * 256 + c.toNat) * 256 + d.toNat) / 2 ^ 24) := by
    rw [← bitsN_mod 8 (((((0 * 256 + a.toNat) * 256 + b.toNat) * 256 + c.toNat) * 256 + d.toNat) / 2 ^ 24) 8 (by omega)]; congr 1; omega
  rw [show (32 : Nat) = 8 + 24 from rfl, bitsN_append, show (24 : Nat) = 8 + 16 from rfl, bitsN_append 8 16, show (16 : Nat) = 8 + 8 from rfl, bitsN_append 8 8]
  rw [e1, e2, e3, e4]
theorem pack_lt (a b c d : UInt8) : pack [a, b, c, d] < 2 ^ 32 := by
  have ha := a.toNat_lt; have hb := b.toNat_lt; have hc := c.toNat_lt; have hd := d.toNat_lt
  simp only [pack, List.foldl_cons, List.foldl_nil]; omega
theorem more_four (s : W) (a b c d : UInt8) : more s [a, b, c, d] = xts 32 (s ^^^ BitVec.ofNat 32 (pack [a, b, c, d])) := by
  rw [more, bitsOf_four, feed_word _ _ (pack_lt a b c d)]
theorem pack_bytes (s : W) : BitVec.ofNat 32 (pack (bytes s)) = s := by
  have := s.isLt
  apply BitVec.eq_of_toNat_eq
  simp only [pack, bytes, List.foldl_cons, List.foldl_nil, BitVec.toNat_ofNat, UInt8.toNat_ofNat']
  omega
theorem bytes_pack (a b c d : UInt8) : bytes (BitVec.ofNat 32 (pack [a, b, c, d])) = [a, b, c, d] := by
  have ha := a.toNat_lt; have hb := b.toNat_lt; have hc := c.toNat_lt; have hd := d.toNat_lt
  simp only [pack, bytes, List.foldl_cons, List.foldl_nil, BitVec.toNat_ofNat]
  congr 1
  · apply UInt8.toNat_inj.1; rw [UInt8.toNat_ofNat']; omega
  congr 1
  · apply UInt8.toNat_inj.1; rw [UInt8.toNat_ofNat']; omega
  congr 1
  · apply UInt8.toNat_inj.1; rw [UInt8.toNat_ofNat']; omega
  congr 1
  · apply UInt8.toNat_inj.1; rw [UInt8.toNat_ofNat']; omega
def lay (l : List UInt8) : List UInt8 := l ++ bytes (sum l)
theorem lay_sum (l : List UInt8) : sum (lay l) = 0#32 := by
  rw [lay, sum, more_append]
  show more (sum l) (bytes (sum l)) = _
  have := more_four (sum l) (UInt8.ofNat ((sum l).toNat / 16777216)) (UInt8.ofNat ((sum l).toNat / 65536 % 256)) (UInt8.ofNat ((sum l).toNat / 256 % 256)) (UInt8.ofNat ((sum l).toNat % 256))
  rw [bytes, this]
  have h := pack_bytes (sum l)
  rw [bytes] at h
  rw [h, BitVec.xor_self, xts_zero]
theorem holds_iff (p : List UInt8) (a b c d : UInt8) : sum (p ++ [a, b, c, d]) = 0#32 ↔ bytes (sum p) = [a, b, c, d] := by
  rw [sum, more_append, more_four]
  show xts 32 (sum p ^^^ _) = _ ↔ _
  constructor
  · intro h
    have := xor_eq_zero (xts_inj0 _ _ h)
    rw [this, bytes_pack]
  · intro h
    have : BitVec.ofNat 32 (pack [a, b, c, d]) = sum p := by rw [← h, pack_bytes]
    rw [this, BitVec.xor_self, xts_zero]
theorem more_inj (s t : W) (l : List UInt8) (h : more s l = more t l) : s = t := by
  rw [more_split s, more_split t] at h
  have h2 := congrArg (· ^^^ more 0#32 l) h
  simp only [BitVec.xor_assoc, BitVec.xor_self, BitVec.xor_zero] at h2
  exact xts_inj _ _ _ h2
/-- rows that differ in four bytes -/
theorem sum_other (p q : List UInt8) (a b c d a' b' c' d' : UInt8) : sum (p ++ [a, b, c, d] ++ q) = sum (p ++ [a', b', c', d'] ++ q) ↔ [a, b, c, d] = [a', b', c', d'] := by
  constructor
  · intro h
    simp only [sum, more_append] at h
    have h2 := more_inj _ _ _ h
    rw [more_four, more_four] at h2
    have h3 := xts_inj _ _ _ h2
    have h4 : BitVec.ofNat 32 (pack [a, b, c, d]) = BitVec.ofNat 32 (pack [a', b', c', d']) := by
      have := congrArg (more ones p ^^^ ·) h3
      simpa [← BitVec.xor_assoc] using this
    rw [← bytes_pack a b c d, h4, bytes_pack]
  · intro h; rw [h]
/-- rows by exclusive or -/
theorem bitsN_xor (n a b : Nat) : bitsN n (a ^^^ b) = List.zipWith (· ^^ ·) (bitsN n a) (bitsN n b) := by
  induction n with
  | zero => rfl
  | succ n ih =>
    rw [bitsN, bitsN, bitsN, List.zipWith_cons_cons, ih]
    congr 1
    have h : ∀ c : Nat, (c / 2 ^ n % 2 == 1) = c.testBit n := fun c => by rw [Nat.testBit_eq_decide_div_mod_eq]; rfl
    rw [h, h, h, Nat.testBit_xor]
theorem bits8_xor (a b : UInt8) : bits8 (a ^^^ b) = List.zipWith (· ^^ ·) (bits8 a) (bits8 b) := by
  rw [bits8, UInt8.toNat_xor, bitsN_xor]; rfl
theorem bitsOf_xor (l m : List UInt8) (h : l.length = m.length) : bitsOf (List.zipWith (· ^^^ ·) l m) = List.zipWith (· ^^ ·) (bitsOf l) (bitsOf m) := by
  induction l generalizing m with
  | nil => cases m with
    | nil => rfl
    | cons => simp at h
  | cons a l ih => cases m with
    | nil => simp at h
    | cons b m =>
      rw [List.zipWith_cons_cons, bitsOf_cons, bitsOf_cons, bitsOf_cons, bits8_xor, ih m (by simpa using h), List.zipWith_append (by simp [bits8_length])]
theorem more_xor (s t : W) (l m : List UInt8) (h : l.length = m.length) : more (s ^^^ t) (List.zipWith (· ^^^ ·) l m) = more s l ^^^ more t m := by
  rw [more, bitsOf_xor l m h, feed_xor _ _ _ _ (by simp [bitsOf_length, h])]; rfl
theorem sum_mixed (x y z : List UInt8) (h1 : x.length = y.length) (h2 : y.length = z.length) :
    sum (List.zipWith (· ^^^ ·) (List.zipWith (· ^^^ ·) x y) z) = sum x ^^^ sum y ^^^ sum z := by
  have e : ones = (ones ^^^ ones) ^^^ ones := by decide
  rw [sum, e, more_xor _ _ _ _ (by simp [h1, h2]), more_xor _ _ _ _ h1]; rfl
/-- a bit of a row turned -/
def flip (l : List UInt8) (p : Nat) : List UInt8 := l.modify (p / 8) fun c => c ^^^ UInt8.ofNat (128 / 2 ^ (p % 8))
theorem bits8_single : ∀ r : Fin 8, bits8 (UInt8.ofNat (128 / 2 ^ r.val)) = List.replicate r.val false ++ (true :: List.replicate (7 - r.val) false) := by decide
theorem single_feed (s : W) (r m : Nat) : feed s (List.replicate r false ++ (true :: List.replicate m false)) = xts (r + 1 + m) s ^^^ xts (m + 1) top := by
  rw [feed_append, feed_zeros, feed_cons, feed_zeros, bit, cond_true, xt_xor, xts_xor, ← xts_succ', ← xts_add]
  rfl
theorem feed8_flip (s : W) (c : UInt8) (r : Nat) (hr : r < 8) : feed s (bits8 (c ^^^ UInt8.ofNat (128 / 2 ^ r))) = feed s (bits8 c) ^^^ xts (8 - r) top := by
  rw [bits8_xor]
  have h := feed_xor s 0#32 (bits8 c) (bits8 (UInt8.ofNat (128 / 2 ^ r))) (by simp [bits8_length])
  rw [BitVec.xor_zero] at h
  rw [h, bits8_single ⟨r, hr⟩, single_feed, xts_zero, BitVec.zero_xor]
  congr 2
  simp only []
  omega
theorem more_flip (s : W) (l : List UInt8) (p : Nat) (hp : p < 8 * l.length) : more s (flip l p) = more s l ^^^ xts (8 * l.length - p) top := by
  induction l generalizing s p with
  | nil => simp at hp
  | cons c l ih =>
    unfold flip
    by_cases h : p < 8
    · rw [show p / 8 = 0 by omega, List.modify_zero_cons, more_cons, more_cons, Nat.mod_eq_of_lt h, feed8_flip _ _ _ h]
      rw [more_split, more_split (feed s (bits8 c)), xts_xor, ← xts_add]
      rw [BitVec.xor_assoc, BitVec.xor_comm (xts _ top), ← BitVec.xor_assoc]
      congr 2
      simp only [List.length_cons]
      omega
    · rw [show p / 8 = (p - 8) / 8 + 1 by omega, List.modify_succ_cons, more_cons, more_cons]
      have := ih (feed s (bits8 c)) (p - 8) (by simp only [List.length_cons] at hp; omega)
      unfold flip at this
      rw [show p % 8 = (p - 8) % 8 by omega, this]
      congr 2
      simp only [List.length_cons]
      omega
theorem flip_length (l : List UInt8) (p : Nat) : (flip l p).length = l.length := by simp [flip]
/-- the bits from 'at' on turned that a number has, the first i of them -/
def burst (l : List UInt8) (pos t : Nat) : Nat → List UInt8
  | 0 => l
  | i + 1 => if t / 2 ^ (31 - i) % 2 = 1 then flip (burst l pos t i) (pos + i) else burst l pos t i
theorem burst_length (l : List UInt8) (pos t i : Nat) : (burst l pos t i).length = l.length := by
  induction i with
  | zero => rfl
  | succ i ih => rw [burst]; split <;> simp [flip_length, ih]
theorem bitsN_get (n j c : Nat) (h : j < (bitsN n c).length) : (bitsN n c)[j] = (c / 2 ^ (n - 1 - j) % 2 == 1) := by
  induction n generalizing j with
  | zero => simp [bitsN] at h
  | succ n ih =>
    cases j with
    | zero => simp [bitsN]
    | succ j =>
      simp only [bitsN, List.getElem_cons_succ]
      rw [ih, show n + 1 - 1 - (j + 1) = n - 1 - j by omega]
theorem bitsN_take (n t i : Nat) (hi : i < n) : (bitsN n t).take (i + 1) = (bitsN n t).take i ++ [t / 2 ^ (n - 1 - i) % 2 == 1] := by
  rw [List.take_succ_eq_append_getElem (by simp [bitsN_length, hi]), bitsN_get]
theorem bitsN_take_succ (t i : Nat) (hi : i < 32) : (bitsN 32 t).take (i + 1) = (bitsN 32 t).take i ++ [t / 2 ^ (31 - i) % 2 == 1] := bitsN_take 32 t i hi
/-- the reference's byte, whose bits go out at its head -/
def left (c k : Nat) : Nat := c % 2 ^ (8 - k) * 2 ^ k
theorem left_zero (c : Nat) (h : c < 256) : left c 0 = c := by unfold left; simp; omega
theorem left_lt (c k : Nat) (hk : k ≤ 8) : left c k < 256 := by
  unfold left
  have h1 : c % 2 ^ (8 - k) < 2 ^ (8 - k) := Nat.mod_lt _ (Nat.two_pow_pos _)
  have h2 : 2 ^ (8 - k) * 2 ^ k = 256 := by rw [← Nat.pow_add, show 8 - k + k = 8 by omega]
  have := Nat.mul_lt_mul_of_pos_right h1 (Nat.two_pow_pos k)
  omega
theorem left_step (c k : Nat) (hk : k < 8) : left c k % 128 * 2 = left c (k + 1) ∧ left c k / 128 = c / 2 ^ (7 - k) % 2 := by
  unfold left
  have hk2 : k = 0 ∨ k = 1 ∨ k = 2 ∨ k = 3 ∨ k = 4 ∨ k = 5 ∨ k = 6 ∨ k = 7 := by omega
  rcases hk2 with rfl | rfl | rfl | rfl | rfl | rfl | rfl | rfl <;> simp <;> omega
theorem feed_take (s : W) (c : UInt8) (k : Nat) (hk : k < 8) : feed s ((bits8 c).take (k + 1)) = bit (feed s ((bits8 c).take k)) (c.toNat / 2 ^ (7 - k) % 2 == 1) := by
  rw [bits8, bitsN_take 8 _ _ hk, feed_append]; rfl
theorem bit_alt (s : W) (b : Bool) : bit s b = (s <<< 1) ^^^ (bif s.msb ^^ b then poly else 0#32) := by
  rw [bit_split, xt, BitVec.xor_assoc]
  congr 1
  have h1 : bit 0#32 true = poly := by decide
  have h2 : bit 0#32 false = 0#32 := by decide
  cases b <;> cases s.msb <;> simp [h1, h2]
theorem burst_sum (l : List UInt8) (pos t i : Nat) (hi : i ≤ 32) (hp : pos + 32 ≤ 8 * l.length) :
    sum (burst l pos t i) = sum l ^^^ xts (8 * l.length - pos - i) (feed 0#32 ((bitsN 32 t).take i)) := by
  induction i with
  | zero => simp [burst, feed, xts_zero]
  | succ i ih =>
    have ih := ih (by omega)
    rw [bitsN_take_succ t i (by omega), feed_append, feed_cons, feed_nil, bit, ← xts, Nat.succ_eq_add_one, show 8 * l.length - pos - (i + 1) + 1 = 8 * l.length - pos - i by omega, xts_xor, burst]
    split
    · rename_i hb
      rw [sum, more_flip _ _ _ (by rw [burst_length]; omega)]
      rw [sum] at ih
      rw [ih, burst_length, hb, BitVec.xor_assoc]
      simp only [beq_self_eq_true, cond_true]
      rw [show 8 * l.length - (pos + i) = 8 * l.length - pos - i by omega]
    · rename_i hb
      have : (t / 2 ^ (31 - i) % 2 == 1) = false := by simpa using hb
      rw [ih, this]
      simp [xts_zero]
theorem burst_not (l : List UInt8) (pos t : Nat) (ht : t < 2 ^ 32) (ht0 : t ≠ 0) (hp : pos + 32 ≤ 8 * l.length) (hl : sum l = 0#32) : sum (burst l pos t 32) ≠ 0#32 := by
  rw [burst_sum l pos t 32 (by omega) hp, hl, BitVec.zero_xor, List.take_of_length_le (by simp [bitsN_length]), feed_word _ _ ht, BitVec.zero_xor]
  intro h
  have h2 := xts_inj0 _ _ (xts_inj0 _ _ h)
  have := congrArg BitVec.toNat h2
  simp only [BitVec.toNat_ofNat] at this
  omega

end Crc
