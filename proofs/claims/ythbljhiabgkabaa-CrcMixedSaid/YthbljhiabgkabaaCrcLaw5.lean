/-
  THE WALK OF LAYER 15's STATEMENT CrcMixed (crc).
-/
import Derived.Test.YthbljhiabgkabaaCrcLaw2
import Derived.Test.YthbljhiabgkabaaAgg2
import Derived.Test.YthbljhiabgkabaaFree
namespace Go.Proofs.Ythbljhiabgkabaa
open Go.ChangeShapes Go.WideShapes Go.ChangeAt Go.RowKit Agg

theorem zip3_get (p q r : List UInt8) (k : Nat) (h1 : k < p.length) (h2 : k < q.length) (h3 : k < r.length) :
    (List.zipWith (· ^^^ ·) (List.zipWith (· ^^^ ·) p q) r)[k]? = some (p[k] ^^^ q[k] ^^^ r[k]) := by
  simp [List.getElem?_zipWith, h1, h2, h3]

/-- the row that is filled, behind k rounds -/
def fillTo (z : List UInt8) (n k : Nat) : List UInt8 := z.take k ++ List.replicate (n - k) 0
theorem fillTo_zero (z : List UInt8) (n : Nat) : bv (fillTo z n 0) = (madeCells (Value.cells (.int .u8 0)) (n * 1)).toList := by
  have : Value.cells (.int .u8 0) = #[.int .u8 0] := rfl
  rw [this, toList_madeCells_one]
  simp [fillTo, bv]
theorem fillTo_all (z : List UInt8) (n : Nat) (h : z.length = n) : fillTo z n n = z := by
  subst h; simp [fillTo]
theorem fillTo_set (z : List UInt8) (n k : Nat) (c : UInt8) (h : z.length = n) (hk : k < n) (hc : z[k]? = some c) : (bv (fillTo z n k)).set k (.int .u8 (c.toNat : Int)) = bv (fillTo z n (k + 1)) := by
  have hkz : k < z.length := by omega
  have hcz : z[k] = c := by rw [List.getElem?_eq_getElem hkz] at hc; exact Option.some.inj hc
  apply List.ext_getElem?
  intro i
  rw [List.getElem?_set]
  unfold fillTo bv
  by_cases hi : k = i
  · subst hi
    have hl : k < (List.map (fun c : UInt8 => Value.int IntKind.u8 (c.toNat : Int)) (z.take k ++ List.replicate (n - k) 0)).length := by simp; omega
    rw [if_pos rfl, if_pos hl, List.getElem?_map, List.getElem?_append_left (by simp; omega), List.getElem?_take, if_pos (by omega), hc]
    rfl
  · rw [if_neg hi, List.getElem?_map, List.getElem?_map]
    congr 1
    by_cases h1 : i < k
    · rw [List.getElem?_append_left (by simp; omega), List.getElem?_append_left (by simp; omega), List.getElem?_take, List.getElem?_take, if_pos h1, if_pos (by omega)]
    · have hl1 : (z.take k).length = k := by simp; omega
      have hl2 : (z.take (k + 1)).length = k + 1 := by simp; omega
      rw [List.getElem?_append_right (by omega), List.getElem?_append_right (by omega), hl1, hl2, List.getElem?_replicate, List.getElem?_replicate]
      by_cases h2 : i < n
      · rw [if_pos (by omega), if_pos (by omega)]
      · rw [if_neg (by omega), if_neg (by omega)]

theorem build_one (x : Option Addr) (n c : Nat) (w : World) : (Instr.buildSlice 22 1 #[(0, .slice x n c)]).run Try.prog w = .ok (.slice (some ⟨w.heap.size, 0, none⟩) 1 1) (w.alloc (.cells #[.slice x n c] 25)) := by kernel_rfl
theorem slice_to (x : Option Addr) (n c k : Nat) (hk : k ≤ c) (w : World) : (Instr.sliceAt 25 (.slice x n c) none (some (.int .i64 (k : Int))) none).run Try.prog w = .ok (.slice x k c) w := by
  obtain ⟨i, hi, hz, hs, hb⟩ := ti25.info
  cases x with
  | none => simp [Instr.sliceAt, Instr.slice, Instr.sliceBounds, Instr.sliceBound, run_underlying ti25.ht, asIntOf, hk, Go.sizeOf, typeInfo, hi]
  | some a => simp [Instr.sliceAt, Instr.slice, Instr.sliceBounds, Instr.sliceBound, run_underlying ti25.ht, asIntOf, hk, Go.sizeOf, typeInfo, hi, Addr.add]
section
variable {ops : Array Oper} {Q : Exit → Act → World → Prop} {G : Nat → Value → World → Prop} {o : Oper} {a : Act} {w : World}
theorem stepBuild {i : Nat} (hg : o.guard = none) {x : Operand} (ho : o.op = .buildSlice 22 1 #[(0, x)]) {y : Option Addr} {n c : Nat} (hx : a.eval x = .slice y n c) {l : List UInt8} (hb : Bytes w (.slice y n c) l)
    (hG : ∀ v w', Rows2 w' v [l] → G i v w') :
    if Region.wanted o (yielded ops a.tmps) = true then o.wp Try.prog a w (fun a' w' => ∃ v, a' = a.put o.dst v ∧ G i v w' ∧ Below w.heap.size w w') Q else G i undef w := by
  refine stepRun hg (.slice (some ⟨w.heap.size, 0, none⟩) 1 1) (w.alloc (.cells #[.slice y n c] 25)) ?_ (hG _ _ (rows_one hb)) ((Below.refl _ _).alloc (Nat.le_refl _) _)
  have h := build_one y n c w
  simp only [execOp, ho, List.map_toArray, List.map_cons, List.map_nil, hx, Sem.run_bind, h, Result.andThen_ok, Sem.run_pure]
theorem stepSlice {i : Nat} (hg : o.guard = none) {x y : Operand} (ho : o.op = .slice 25 x none (some y) none) {z : Option Addr} {n c k : Nat} (hx : a.eval x = .slice z n c) (hy : a.eval y = .int .i64 (k : Int)) (hk : k ≤ c)
    (hG : G i (.slice z k c) w) :
    if Region.wanted o (yielded ops a.tmps) = true then o.wp Try.prog a w (fun a' w' => ∃ v, a' = a.put o.dst v ∧ G i v w' ∧ Below w.heap.size w w') Q else G i undef w := by
  refine stepRun hg (.slice z k c) w ?_ hG (Below.refl _ _)
  have h := slice_to z n c k hk w
  simp only [execOp, ho, hx, Option.map_none, Option.map_some, hy, Sem.run_bind, h, Result.andThen_ok, Sem.run_pure]
theorem stepSum {i : Nat} (hg : o.guard = none) {x : Operand} {ts : Array TypeId} (ho : o.op = .call { callee := .value (.func 13), args := #[x], argTypes := ts }) {v : Value} (hx : a.eval x = v) {l : List UInt8} (hr : Rows2 w v [l]) (hl : l.length ≤ maxLen)
    (hG : ∀ w', G i (.int .u32 (Crc.sum l).toNat) w') :
    if Region.wanted o (yielded ops a.tmps) = true then o.wp Try.prog a w (fun a' w' => ∃ v, a' = a.put o.dst v ∧ G i v w' ∧ Below w.heap.size w w') Q else G i undef w := by
  refine stepCall hg Try.func13 rfl (by kernel_rfl) ho (by simp only [List.map_toArray, List.map_cons, List.map_nil, hx]; rfl) ?_
  refine (sum_any [l] v w hr (by simpa using hl)).mono ?_
  rintro e w' ⟨rfl, hb⟩
  rw [List.flatten_singleton]
  exact ⟨_, rfl, hG w', hb⟩
end
def MixG (V S0 S1 S2 : Value) (x0 x1 x2 : Option Addr) (c0 c1 c2 n : Nat) (z p q r : List UInt8) (i : Nat) (v : Value) (w : World) : Prop :=
  match i with
  | 0 => v = V
  | 1 => Rows2 w v [z]
  | 2 => v = .int .u32 (Crc.sum z).toNat
  | 3 => v = S0
  | 4 => v = .int .i64 (n : Int)
  | 5 => v = .slice x0 n c0
  | 6 => Rows2 w v [p]
  | 7 => v = .int .u32 (Crc.sum p).toNat
  | 8 => v = S1
  | 9 => v = .int .i64 (n : Int)
  | 10 => v = .slice x1 n c1
  | 11 => Rows2 w v [q]
  | 12 => v = .int .u32 (Crc.sum q).toNat
  | 13 => v = .int .u32 (Crc.sum p ^^^ Crc.sum q).toNat
  | 14 => v = S2
  | 15 => v = .int .i64 (n : Int)
  | 16 => v = .slice x2 n c2
  | 17 => Rows2 w v [r]
  | 18 => v = .int .u32 (Crc.sum r).toNat
  | 19 => v = .int .u32 (Crc.sum p ^^^ Crc.sum q ^^^ Crc.sum r).toNat
  | 20 => v = .bool true
  | 21 => v = .bool true
  | _ => True
theorem MixG_stable {V S0 S1 S2 : Value} {x0 x1 x2 : Option Addr} {c0 c1 c2 n : Nat} {z p q r : List UInt8} (i : Nat) (v : Value) (w w' : World) (h : MixG V S0 S1 S2 x0 x1 x2 c0 c1 c2 n z p q r i v w) (hb : Below w.heap.size w w') : MixG V S0 S1 S2 x0 x1 x2 c0 c1 c2 n z p q r i v w' := by
  unfold MixG at *
  split at h <;> first | exact h | exact Rows2.keep h hb

set_option maxHeartbeats 1000000 in
theorem CrcMixed_walk (v0 : Value) (l0 : List UInt8) (v1 : Value) (l1 : List UInt8) (v2 : Value) (l2 : List UInt8) (w : World) (h0 : Bytes w v0 l0) (_ : l0.length ≤ maxLen) (h1 : Bytes w v1 l1) (_ : l1.length ≤ maxLen) (h2 : Bytes w v2 l2) (_ : l2.length ≤ maxLen) :
    Calls Try.prog 6 #[v0, v1, v2] w fun e w' => e = .returned (.bool true) ∧ Below w.heap.size w w' := by
  have s0 : SlR w v0 1 l0.length (bv l0) := h0
  have s1 : SlR w v1 1 l1.length (bv l1) := h1
  have s2 : SlR w v2 1 l2.length (bv l2) := h2
  obtain ⟨x0, c0, rfl, b0, m0⟩ := s0.shape
  obtain ⟨x1, c1, rfl, b1, m1⟩ := s1.shape
  obtain ⟨x2, c2, rfl, b2, m2⟩ := s2.shape
  have m0' : c0 ≤ 9223372036854775807 := by unfold maxLen at m0; omega
  have m1' : c1 ≤ 9223372036854775807 := by unfold maxLen at m1; omega
  have m2' : c2 ≤ 9223372036854775807 := by unfold maxLen at m2; omega
  obtain ⟨n, hn⟩ : ∃ n, n = min (min (min l0.length l1.length) l2.length) 300 := ⟨_, rfl⟩
  have hn0 : n ≤ l0.length := by omega
  have hn1 : n ≤ l1.length := by omega
  have hn2 : n ≤ l2.length := by omega
  have hn3 : n ≤ 300 := by omega
  have hmin : (if (300 : Int) < (if (l2.length : Int) < (if (l1.length : Int) < (l0.length : Int) then (l1.length : Int) else l0.length) then (l2.length : Int) else (if (l1.length : Int) < (l0.length : Int) then (l1.length : Int) else l0.length)) then (300 : Int) else (if (l2.length : Int) < (if (l1.length : Int) < (l0.length : Int) then (l1.length : Int) else l0.length) then (l2.length : Int) else (if (l1.length : Int) < (l0.length : Int) then (l1.length : Int) else l0.length))) = (n : Int) := by
    split <;> (try split) <;> (try split) <;> (try split) <;> omega
  have HS0 := Lib.hid s0
  have HS1 := Lib.hid s1
  have HS2 := Lib.hid s2
  have HMIN := Lib.hid hmin
  clear hmin hn s0 s1 s2 h0 h1 h2 m0 m1 m2
  go_enter Try.func6, Try.ntmps6
  go_wp2_with fail
  refine (wakes_any w).mono ?_
  rintro e w1 ⟨rfl, hb1⟩
  have HB1 := Lib.hid hb1
  clear hb1
  have hmin4 : ∀ ts t w, (Builtin.min_ ts t #[.int .i64 (l0.length : Int), .int .i64 (l1.length : Int), .int .i64 (l2.length : Int), .int .i64 300]).run Try.prog w = .ok (.int .i64 (n : Int)) w := by
    intro ts t w
    rw [← HMIN.out]
    rfl
  obtain ⟨z, hz⟩ : ∃ z, z = List.zipWith (· ^^^ ·) (List.zipWith (· ^^^ ·) (l0.take n) (l1.take n)) (l2.take n) := ⟨_, rfl⟩
  have hzl : z.length = n := by rw [hz]; simp; omega
  have HZ := Lib.hid hz
  have hown := World.ownsRow_lit (e := 5) (size := 1) (base := w.heap.size) w1 (madeCells (Value.cells (.int .u8 0)) (n * 1)) n HB1.out.size (by unfold maxLen; omega) (size_madeCells _ _)
  rw [← fillTo_zero z n] at hown
  have HO := Lib.hid hown
  have HB2 := Lib.hid (HB1.out.alloc HB1.out.size (.cells (madeCells (Value.cells (.int .u8 0)) (n * 1)) 5))
  obtain ⟨w2, hw2⟩ : ∃ w2, w2 = w1.alloc (.cells (madeCells (Value.cells (.int .u8 0)) (n * 1)) 5) := ⟨_, rfl⟩
  rw [← hw2] at HO HB2
  have HW2 := Lib.hid hw2
  clear hz hown hw2
  go_wp2_with (first
    | (refine Agg.make ti25 _ _ rfl rfl n n rfl rfl rfl rfl (Nat.le_refl _) (by omega) (by unfold maxLen; omega) ?_; rw [← HW2.out]; simp only [Act.put, List.setIfInBounds_toArray, List.set_cons_succ, List.set_cons_zero]))
  clear hmin4
  go_loopw [22] (fun i wr => ∃ k : Nat, k ≤ n ∧ i = .int .i64 k ∧ Below w.heap.size w wr ∧ wr.ownsRow w.heap.size 5 1 (.slice (some ⟨w1.heap.size, 0, none⟩) n n) n (bv (fillTo z n k))) (fun i _ => n - (intOf i).toNat)
  case atStart => exact ⟨0, by omega, rfl, HB2.out, HO.out⟩
  case round =>
    obtain ⟨k, hk, rfl, hb, ho⟩ := hrel
    have HB := Lib.hid hb
    have HR := Lib.hid ho
    clear hb ho
    by_cases hlt : k < n
    · have i0 : k < l0.length := by omega
      have i1 : k < l1.length := by omega
      have i2 : k < l2.length := by omega
      obtain ⟨q0, p0, d0, hve0, _, _, hcs0, _⟩ := SlR.pos HS0.out (by decide) (by omega)
      simp only [Value.slice.injEq, true_and] at hve0
      obtain ⟨rfl, rfl⟩ := hve0
      obtain ⟨q1, p1, d1, hve1, _, _, hcs1, _⟩ := SlR.pos HS1.out (by decide) (by omega)
      simp only [Value.slice.injEq, true_and] at hve1
      obtain ⟨rfl, rfl⟩ := hve1
      obtain ⟨q2, p2, d2, hve2, _, _, hcs2, _⟩ := SlR.pos HS2.out (by decide) (by omega)
      simp only [Value.slice.injEq, true_and] at hve2
      obtain ⟨rfl, rfl⟩ := hve2
      have ad : ∀ f : Nat, f + ((k : Nat) : Int).toNat * 1 = f + k := fun f => by omega
      have k0 : wr.drew.cell? ⟨q0, p0 + ((k : Nat) : Int).toNat * 1, none⟩ = some (.int .u8 (l0[k].toNat : Int)) := by rw [ad]; exact cell_keep HB.out.drew (hcs0 k _ (bv_get l0 k i0))
      have k1 : wr.drew.cell? ⟨q1, p1 + ((k : Nat) : Int).toNat * 1, none⟩ = some (.int .u8 (l1[k].toNat : Int)) := by rw [ad]; exact cell_keep HB.out.drew (hcs1 k _ (bv_get l1 k i1))
      have k2 : wr.drew.cell? ⟨q2, p2 + ((k : Nat) : Int).toNat * 1, none⟩ = some (.int .u8 (l2[k].toNat : Int)) := by rw [ad]; exact cell_keep HB.out.drew (hcs2 k _ (bv_get l2 k i2))
      have x1 : bits .xor .u8 (l0[k].toNat : Int) (l1[k].toNat : Int) = ((l0[k] ^^^ l1[k]).toNat : Int) := by rw [bits_xor .u8 _ _ rfl l0[k].toNat_lt l1[k].toNat_lt, UInt8.toNat_xor]
      have x2 : bits .xor .u8 ((l0[k] ^^^ l1[k]).toNat : Int) (l2[k].toNat : Int) = ((l0[k] ^^^ l1[k] ^^^ l2[k]).toNat : Int) := by rw [bits_xor .u8 _ _ rfl (l0[k] ^^^ l1[k]).toNat_lt l2[k].toNat_lt, UInt8.toNat_xor (l0[k] ^^^ l1[k])]
      have hzk : z[k]? = some (l0[k] ^^^ l1[k] ^^^ l2[k]) := by
        rw [HZ.out, zip3_get _ _ _ k (by simp; omega) (by simp; omega) (by simp; omega)]
        simp
      have HF := Lib.hid (fillTo_set z n k _ hzl hlt hzk)
      have HST := Lib.hid (HR.out.stored k (.int .u8 ((l0[k] ^^^ l1[k] ^^^ l2[k]).toNat : Int)))
      have hold : ∃ u, wr.cell? ⟨w1.heap.size, k, none⟩ = some u := by
        rw [HR.out.cellAt k (by omega)]
        have hbl : k < (bv (fillTo z n k)).length := by rw [HR.out.1]; omega
        exact ⟨_, List.getElem?_eq_getElem hbl⟩
      obtain ⟨u, hold⟩ := hold
      have hcd : wr.drew.cell? ⟨w1.heap.size, k, none⟩ = some u := hold
      have hfd : wr.drew.frozen? ⟨w1.heap.size, k, none⟩ = false := HR.out.frozenAt k
      have ad0 : 0 + ((k : Nat) : Int).toNat * 1 = k := by omega
      clear hcs0 hcs1 hcs2 hold hzk
      go_wp2_with fail
      refine Agg.stillTail 17 (by kernel_rfl) (by kernel_rfl) (fun K hK => ?_)
      simp only [List.take_succ_cons, List.take_zero]
      refine Agg.stMove rfl (Agg.wn rfl) rfl ?_; simp only [Agg.ev, List.getD_cons_zero, List.getD_cons_succ, List.set_cons_succ, List.set_cons_zero]
      refine Agg.stMove rfl (Agg.wn rfl) rfl ?_; simp only [Agg.ev, List.getD_cons_zero, List.getD_cons_succ, List.set_cons_succ, List.set_cons_zero]
      refine Agg.stMove rfl (Agg.wn rfl) rfl ?_; simp only [Agg.ev, List.getD_cons_zero, List.set_cons_succ, List.set_cons_zero]
      refine Agg.stMove rfl (Agg.wn rfl) rfl ?_; simp only [Agg.ev, List.getD_cons_zero, List.getD_cons_succ, List.set_cons_succ, List.set_cons_zero]
      refine Agg.stIdx ti25 rfl (Agg.wn rfl) rfl rfl rfl (by omega) (by omega) ?_; simp only [List.set_cons_succ, List.set_cons_zero]
      refine Agg.stLoad rfl (Agg.wn rfl) rfl rfl rfl k0 ?_; simp only [List.set_cons_succ, List.set_cons_zero]
      refine Agg.stMove rfl (Agg.wn rfl) rfl ?_; simp only [Agg.ev, List.getD_cons_zero, List.getD_cons_succ, List.set_cons_succ, List.set_cons_zero]
      refine Agg.stMove rfl (Agg.wn rfl) rfl ?_; simp only [Agg.ev, List.getD_cons_zero, List.getD_cons_succ, List.set_cons_succ, List.set_cons_zero]
      refine Agg.stIdx ti25 rfl (Agg.wn rfl) rfl rfl rfl (by omega) (by omega) ?_; simp only [List.set_cons_succ, List.set_cons_zero]
      refine Agg.stLoad rfl (Agg.wn rfl) rfl rfl rfl k1 ?_; simp only [List.set_cons_succ, List.set_cons_zero]
      refine Agg.stBin rfl (Agg.wn rfl) rfl rfl rfl rfl (run_xor_u8 5 _ _ _ x1 _) ?_; simp only [List.set_cons_succ, List.set_cons_zero]
      refine Agg.stMove rfl (Agg.wn rfl) rfl ?_; simp only [Agg.ev, List.getD_cons_zero, List.getD_cons_succ, List.set_cons_succ, List.set_cons_zero]
      refine Agg.stMove rfl (Agg.wn rfl) rfl ?_; simp only [Agg.ev, List.getD_cons_zero, List.getD_cons_succ, List.set_cons_succ, List.set_cons_zero]
      refine Agg.stIdx ti25 rfl (Agg.wn rfl) rfl rfl rfl (by omega) (by omega) ?_; simp only [List.set_cons_succ, List.set_cons_zero]
      refine Agg.stLoad rfl (Agg.wn rfl) rfl rfl rfl k2 ?_; simp only [List.set_cons_succ, List.set_cons_zero]
      refine Agg.stBin rfl (Agg.wn rfl) rfl rfl rfl rfl (run_xor_u8 5 _ _ _ x2 _) ?_; simp only [List.set_cons_succ, List.set_cons_zero]
      refine Agg.stIdx ti25 rfl (Agg.wn rfl) rfl rfl rfl (by omega) (by omega) ?_; simp only [List.set_cons_succ, List.set_cons_zero]
      refine wpStill_nil (hK _ ?_)
      clear hK K
      simp only [List.drop_succ_cons, List.drop_zero, ad0]
      clear k0 k1 k2 x1 x2 ad ad0
      go_wp2_with fail
      have e3 : (l0[k] ^^^ l1[k] ^^^ l2[k]).toNat = l0[k].toNat ^^^ l1[k].toNat ^^^ l2[k].toNat := by simp [UInt8.toNat_xor]
      have hrow := HST.out.1
      rw [HF.out, e3] at hrow
      refine ⟨⟨k + 1, by omega, by go_num, ?_, hrow⟩, by simp [intOf]; omega⟩
      exact (HB.out.setCell (p := ⟨w1.heap.size, k, none⟩) (HR.out.lt _ rfl).1 _).drew
    · obtain rfl : k = n := by omega
      rw [fillTo_all z k hzl] at HR
      have HBZ : Hid (Bytes wr (.slice (some ⟨w1.heap.size, 0, none⟩) k k) z) := own_bytes HR.out hzl
      have tk : ∀ (l : List UInt8), (bv l).take (k * 1) = bv (l.take k) := fun l => by rw [Nat.mul_one, bv_take]
      have y0 : Bytes w (.slice x0 k c0) (l0.take k) := by
        have h := HS0.out.take k hn0
        rw [tk] at h
        have e : (l0.take k).length = k := by simp; omega
        unfold Bytes; rw [e]; exact h
      have y1 : Bytes w (.slice x1 k c1) (l1.take k) := by
        have h := HS1.out.take k hn1
        rw [tk] at h
        have e : (l1.take k).length = k := by simp; omega
        unfold Bytes; rw [e]; exact h
      have y2 : Bytes w (.slice x2 k c2) (l2.take k) := by
        have h := HS2.out.take k hn2
        rw [tk] at h
        have e : (l2.take k).length = k := by simp; omega
        unfold Bytes; rw [e]; exact h
      have HY0 := Lib.hid (y0.keep HB.out)
      have HY1 := Lib.hid (y1.keep HB.out)
      have HY2 := Lib.hid (y2.keep HB.out)
      have hmix := Crc.sum_mixed (l0.take k) (l1.take k) (l2.take k) (by simp; omega) (by simp; omega)
      rw [← HZ.out] at hmix
      have HMX := Lib.hid hmix
      have e0 : (l0.take k).length ≤ maxLen := by simp; unfold maxLen; omega
      have e1 : (l1.take k).length ≤ maxLen := by simp; unfold maxLen; omega
      have e2 : (l2.take k).length ≤ maxLen := by simp; unfold maxLen; omega
      have ez : z.length ≤ maxLen := by unfold maxLen; omega
      have HEE := Lib.hid (And.intro ez (And.intro e0 (And.intro e1 e2)))
      have hle0 : k ≤ c0 := by omega
      have hle1 : k ≤ c1 := by omega
      have hle2 : k ≤ c2 := by omega
      clear tk y0 y1 y2 hmix e0 e1 e2 ez
      generalize l0.take k = p at *
      generalize l1.take k = q at *
      generalize l2.take k = r at *
      go_wp2_with fail
      refine Agg.free (MixG (.slice (some ⟨w1.heap.size, 0, none⟩) k k) (.slice x0 l0.length c0) (.slice x1 l1.length c1) (.slice x2 l2.length c2) x0 x1 x2 c0 c1 c2 k z p q r) (by kernel_rfl) (by kernel_rfl) MixG_stable (fun Q' => ?_) (fun vs w' hb' hG => ?_)
      · refine ⟨?_, ?_, ?_, ?_, ?_, ?_, ?_, ?_, ?_, ?_, ?_, ?_, ?_, ?_, ?_, ?_, ?_, ?_, ?_, ?_, ?_, ?_, trivial⟩
        all_goals intro a wa h
        · exact stepMove rfl rfl (h.old 8 (by kernel_rfl) rfl) rfl
        · obtain ⟨v, hv, hg, _⟩ := h.got 0 43 (by kernel_rfl) rfl
          subst hg
          exact stepBuild rfl rfl hv (HBZ.out.keep ⟨h.below.os, h.below.tape, h.below.output, h.below.size, h.below.block⟩) (fun v w' hr => hr)
        · obtain ⟨v, hv, hg, _⟩ := h.got 1 44 (by kernel_rfl) rfl
          exact stepSum rfl rfl hv hg HEE.out.1 (fun w' => rfl)
        · exact stepMove rfl rfl (h.old 0 (by kernel_rfl) rfl) rfl
        · exact stepMove rfl rfl (h.old 7 (by kernel_rfl) rfl) rfl
        · obtain ⟨v, hv, hg, _⟩ := h.got 3 46 (by kernel_rfl) rfl
          obtain ⟨u, hu, hg2, _⟩ := h.got 4 47 (by kernel_rfl) rfl
          subst hg; subst hg2
          exact stepSlice rfl rfl hv hu hle0 rfl
        · obtain ⟨v, hv, hg, _⟩ := h.got 5 48 (by kernel_rfl) rfl
          subst hg
          exact stepBuild rfl rfl hv (HY0.out.keep ⟨h.below.os, h.below.tape, h.below.output, h.below.size, h.below.block⟩) (fun v w' hr => hr)
        · obtain ⟨v, hv, hg, _⟩ := h.got 6 49 (by kernel_rfl) rfl
          exact stepSum rfl rfl hv hg HEE.out.2.1 (fun w' => rfl)
        · exact stepMove rfl rfl (h.old 1 (by kernel_rfl) rfl) rfl
        · exact stepMove rfl rfl (h.old 7 (by kernel_rfl) rfl) rfl
        · obtain ⟨v, hv, hg, _⟩ := h.got 8 51 (by kernel_rfl) rfl
          obtain ⟨u, hu, hg2, _⟩ := h.got 9 52 (by kernel_rfl) rfl
          subst hg; subst hg2
          exact stepSlice rfl rfl hv hu hle1 rfl
        · obtain ⟨v, hv, hg, _⟩ := h.got 10 53 (by kernel_rfl) rfl
          subst hg
          exact stepBuild rfl rfl hv (HY1.out.keep ⟨h.below.os, h.below.tape, h.below.output, h.below.size, h.below.block⟩) (fun v w' hr => hr)
        · obtain ⟨v, hv, hg, _⟩ := h.got 11 54 (by kernel_rfl) rfl
          exact stepSum rfl rfl hv hg HEE.out.2.2.1 (fun w' => rfl)
        · obtain ⟨v, hv, hg, _⟩ := h.got 7 50 (by kernel_rfl) rfl
          obtain ⟨u, hu, hg2, _⟩ := h.got 12 55 (by kernel_rfl) rfl
          subst hg; subst hg2
          exact stepBin rfl rfl hv hu rfl (by rw [← bxor]; rfl) rfl
        · exact stepMove rfl rfl (h.old 2 (by kernel_rfl) rfl) rfl
        · exact stepMove rfl rfl (h.old 7 (by kernel_rfl) rfl) rfl
        · obtain ⟨v, hv, hg, _⟩ := h.got 14 57 (by kernel_rfl) rfl
          obtain ⟨u, hu, hg2, _⟩ := h.got 15 58 (by kernel_rfl) rfl
          subst hg; subst hg2
          exact stepSlice rfl rfl hv hu hle2 rfl
        · obtain ⟨v, hv, hg, _⟩ := h.got 16 59 (by kernel_rfl) rfl
          subst hg
          exact stepBuild rfl rfl hv (HY2.out.keep ⟨h.below.os, h.below.tape, h.below.output, h.below.size, h.below.block⟩) (fun v w' hr => hr)
        · obtain ⟨v, hv, hg, _⟩ := h.got 17 60 (by kernel_rfl) rfl
          exact stepSum rfl rfl hv hg HEE.out.2.2.2 (fun w' => rfl)
        · obtain ⟨v, hv, hg, _⟩ := h.got 13 56 (by kernel_rfl) rfl
          obtain ⟨u, hu, hg2, _⟩ := h.got 18 61 (by kernel_rfl) rfl
          subst hg; subst hg2
          exact stepBin rfl rfl hv hu rfl (by rw [← bxor (Crc.sum p ^^^ Crc.sum q) (Crc.sum r)]; rfl) rfl
        · obtain ⟨v, hv, hg, _⟩ := h.got 2 45 (by kernel_rfl) rfl
          obtain ⟨u, hu, hg2, _⟩ := h.got 19 62 (by kernel_rfl) rfl
          subst hg; subst hg2
          refine stepBin rfl rfl hv hu rfl (v := .bool true) ?_ rfl
          rw [HMX.out]
          show Result.ok (Value.bool (((Crc.sum p ^^^ Crc.sum q ^^^ Crc.sum r).toNat : Int) == ((Crc.sum p ^^^ Crc.sum q ^^^ Crc.sum r).toNat : Int))) wa = _
          rw [beq_self_eq_true]
        · obtain ⟨v, hv, hg, _⟩ := h.got 20 63 (by kernel_rfl) rfl
          subst hg
          exact stepAssign rfl rfl hv rfl
      · have hv21 : vs 21 = .bool true := hG 21 _ rfl
        simp only [Agg.setAll, Nat.reduceAdd, List.set_cons_succ, List.set_cons_zero, hv21]
        have HBF := Lib.hid (HB.out.trans (hb'.mono HB.out.size))
        clear hG hb' hv21
        go_wp2_with fail
        go_ret
        exact ⟨rfl, HBF.out⟩
end Go.Proofs.Ythbljhiabgkabaa
