/-
  APPEND OF A ROW THAT IS MADE (append(s, make([]T, n)...)), s nil. Over any program.
-/
import Derived.Laws.AppendOwn
import Derived.Test.YtgfmpkcgkjpgnaaFi4
import Derived.Test.YtgfmpkcgkjpgnaaRest
import Derived.Test.YtgfmpkcgkjpgnaaFi1
import Derived.Test.YtgfmpkcgkjpgnaaFiS
import Derived.Test.YtgfmpkcgkjpgnaaFiA
import Derived.Test.YtgfmpkcgkjpgnaaFiX
section
namespace Agg
open Go Go.RowKit
theorem run_append_made {P : Program} {t e it : TypeId} {size bytes : Nat} {z : Value} {k : IntKind} (T : TI P t e size bytes z) (hit : P.underlying it = some (.int k)) (ty : TypeId) (w : World) (n : Nat) (h0 : 0 < n) (h63 : n ≤ maxLen) (hb : n * bytes ≤ 140737488355328) (hs0 : 0 < size) :
    ∃ c w', (Builtin.append_ #[t, it] ty #[.slice none 0 0, .int .i64 (n : Int)]).run P w = .ok (.slice (some ⟨w.heap.size, 0, none⟩) n c) w' ∧ w'.ownsRow w.heap.size e size (.slice (some ⟨w.heap.size, 0, none⟩) 0 c) 0 [] ∧ Below w.heap.size w w' ∧ n ≤ c := by
  obtain ⟨i, hi, hz, hs, hbt⟩ := T.info
  have hn : n ≠ 0 := by omega
  have h63n : (n : Int) ≤ 9223372036854775807 := by unfold maxLen at h63; omega
  have h63' : ¬ (9223372036854775807 < (n : Int)) := by omega
  have hw : IntKind.i64.wrap (n : Int) = n := by simp [IntKind.wrap, IntKind.bits, IntKind.signed]; omega
  have hneg : ¬ ((n : Int) < 0) := by omega
  have h48' : ¬ (281474976710656 < Builtin.nextslicecap n 0 * i.bytes) := by rw [nextslicecap_zero h0, hbt]; omega
  have h48i : ¬ (281474976710656 < (n : Int) * (i.bytes : Int)) := by
    rw [hbt]
    have : ((n * bytes : Nat) : Int) ≤ 140737488355328 := by omega
    rw [Int.natCast_mul] at this; omega
  have hnz : ¬ (n = 0 ∨ i.size = 0) := by rw [hs]; omega
  have hmx : max (n : Int) 0 = n := by omega
  have hle0 : ¬ ((n : Int) ≤ 0) := by omega
  have hge := grownCap_ge w n 0 e
  have hle := grownCap_le_maxLen w n 0 e h63
  have hzs : z.cells.size = size := T.hzs
  refine ⟨grownCap w n 0 e, w.drew.alloc (.cells (Builtin.zeroCells z.cells n ++ Builtin.zeroCells z.cells (grownCap w n 0 e - n)) e), ?_, ⟨by simp, .inr ⟨w.heap.size, _, Builtin.zeroCells z.cells n ++ Builtin.zeroCells z.cells (grownCap w n 0 e - n), rfl, Nat.le_refl _, ?_, Nat.zero_le _, hle, ?_, by simp⟩⟩, ?_, hge⟩
  · simp [Builtin.append_, run_underlying T.ht, run_underlying hit, Go.sizeOf, typeInfo, zeroValue, hi, hz, asInt, asIntOf, hw, hneg, hmx, hle0, hn, h63', h48', h48i, hnz, Question.forced, run_firstCells_none, newRow, grownCap, Builtin.firstCells]
    intro h
    exact absurd (Nat.mul_eq_zero.1 h) hnz
  · exact heap_alloc_new w.drew _
  · rw [Array.size_append, size_zeroCells, size_zeroCells, hzs, ← Nat.add_mul]; congr 1; omega
  · exact (bel_drew (Below.refl _ w)).alloc (Nat.le_refl _) _
section
variable {P : Program} {ops : Array Oper} {rest : List Oper} {o : Oper} {a : Act} {w : World} {Q : Exit → Act → World → Prop}
theorem appendMade {t e it : TypeId} {size bytes : Nat} {z : Value} {k : IntKind} (T : TI P t e size bytes z) (hit : P.underlying it = some (.int k)) (s x : Operand) (hg : o.guard = none) (ho : o.op = .call { callee := .builtin .append, args := #[s, x], argTypes := #[t, it] })
    (n : Nat) (hs : a.eval s = .slice none 0 0) (hx : a.eval x = .int .i64 (n : Int)) (h0 : 0 < n) (h63 : n ≤ maxLen) (hb : n * bytes ≤ 140737488355328) (hs0 : 0 < size)
    (h : ∀ c w', w'.ownsRow w.heap.size e size (.slice (some ⟨w.heap.size, 0, none⟩) 0 c) 0 [] → Below w.heap.size w w' → n ≤ c → wpList P ops Q rest (a.put o.dst (.slice (some ⟨w.heap.size, 0, none⟩) n c)) w') : wpList P ops Q (o :: rest) a w := by
  obtain ⟨c, w', hr, h2, h3, h4⟩ := run_append_made T hit o.type w n h0 h63 hb hs0
  refine run hg _ w' ?_ (h c w' h2 h3 h4)
  simp [execOp, ho, resolve, hs, hx, invoke, builtin, hr]
end
end Agg
end
section
/-
  FILES: slices.Concat of two rows of numbers.
-/
namespace Go.Proofs.Ytgfmpkcgkjpgnaa
open Go.ChangeShapes Go.WideShapes Go.ChangeAt Go.RowKit Agg Pg Dv Fi

theorem growI_any (n : Nat) (w : World) (hn : n ≤ 1000000) :
    Calls Try.prog 36 #[.slice none 0 0, .int .i64 n] w fun e w' => ∃ x c, e = .returned (.slice x 0 c) ∧ w'.ownsRow w.heap.size 3 1 (.slice x 0 c) 0 [] ∧ Below w.heap.size w w' := by
  have h0b : ¬ (n : Int) < 0 := by omega
  by_cases h0 : 0 < n
  · have h0c : (n : Int) > 0 := by omega
    have HB := Lib.hid (Below.refl w.heap.size w)
    go_enter Try.func36, Try.ntmps36
    go_wp2_with (refine Agg.appendMade tiInt (k := .i64) (by kernel_rfl) (.tmp 20) (.tmp 21) rfl rfl n rfl rfl h0 (by unfold maxLen; omega) (by omega) (by decide) (fun c w9 ho hb hc => ?_); simp only [Act.put, List.setIfInBounds_toArray, List.set_cons_succ, List.set_cons_zero])
    go_ret
    exact ⟨_, _, rfl, ho, hb⟩
  · obtain rfl : n = 0 := by omega
    have HB := Lib.hid (Below.refl w.heap.size w)
    go_enter Try.func36, Try.ntmps36
    go_wp2_with fail
    go_ret
    exact ⟨_, _, rfl, World.ownsRow_nil _ _ _ _, HB.out⟩
def szKI (L M : List Int) : Nat → Nat
  | 0 => 0
  | 1 => L.length
  | _ => L.length + M.length
def catKI (L M : List Int) : Nat → List Int
  | 0 => []
  | 1 => L
  | _ => L ++ M
theorem catI_len (L M : List Int) (k : Nat) : (catKI L M k).length = szKI L M k := by
  unfold catKI szKI
  split <;> simp
set_option maxHeartbeats 4000000 in
set_option maxRecDepth 100000 in
theorem concatI_any (L M : List Int) (u v : Value) (b : Nat) (w : World) (hb : Blk w b 22 [u, v]) (hu : Ints w u L) (hv : Ints w v M) (hL2 : L.length ≤ 400) (hM2 : M.length ≤ 400) :
    Calls Try.prog 14 #[.slice (some ⟨b, 0, none⟩) 2 2] w fun e w' => ∃ q, e = .returned q ∧ w'.ownsRow w.heap.size 3 1 q (L ++ M).length (iC (L ++ M)) ∧ Below w.heap.size w w' := by
  obtain ⟨x, cx, rfl, _, _⟩ := SlR.shape hu
  obtain ⟨y, cy, rfl, _, _⟩ := SlR.shape hv
  have HBK := Lib.hid hb
  have HU := Lib.hid hu
  have HV := Lib.hid hv
  clear hb hu hv
  have HB := Lib.hid (Below.refl w.heap.size w)
  go_enter Try.func14, Try.ntmps14
  go_wp2_with fail
  go_loopw [3, 11] (fun s i wr => ∃ k : Nat, k ≤ 2 ∧ i = .int .i64 k ∧ s = .int .i64 (szKI L M k : Int) ∧ wr = w) (fun _ i _ => 2 - (intOf i).toNat)
  case atStart => exact ⟨0, by omega, rfl, rfl, rfl⟩
  case round =>
    obtain ⟨k, hk, rfl, rfl, hwr⟩ := hrel
    replace hwr := hwr.symm
    subst hwr
    have c0 := HBK.out.cell 0
    have c1 := HBK.out.cell 1
    simp only [List.getElem?_cons_zero, List.getElem?_cons_succ] at c0 c1
    by_cases k0 : k = 0
    · subst k0
      have hpos : ¬ (L.length : Int) < 0 := by omega
      simp only [szKI]
      go_wp2_with fail
      exact ⟨⟨1, by omega, rfl, by simp [szKI], by first | rfl | trivial⟩, by simp [intOf]⟩
    · by_cases k1 : k = 1
      · subst k1
        have hpos : ¬ (L.length : Int) + (M.length : Int) < 0 := by omega
        simp only [szKI]
        go_wp2_with fail
        exact ⟨⟨2, by omega, rfl, by simp [szKI], by first | rfl | trivial⟩, by simp [intOf]⟩
      · obtain rfl : k = 2 := by omega
        clear c0 c1
        obtain ⟨n, hn⟩ : ∃ n, szKI L M 2 = n := ⟨_, rfl⟩
        have hn2 : n = L.length + M.length := by rw [← hn]; rfl
        rw [hn]
        clear hn
        have HN := Lib.hid hn2
        clear hn2
        have hn3 : n ≤ 800 := by have := HN.out; omega
        go_wp2_with fail
        refine (growI_any n w (by omega)).mono ?_
        rintro e w1 ⟨gx, c, rfl, ho, hb1⟩
        have HO := Lib.hid ho
        have HB1 := Lib.hid hb1
        clear ho hb1
        go_wp2_with fail
        go_loopw [6, 27] (fun q i W => ∃ k : Nat, k ≤ 2 ∧ i = .int .i64 k ∧ W.ownsRow w.heap.size 3 1 q (catKI L M k).length (iC (catKI L M k)) ∧ Below w.heap.size w W) (fun _ i _ => 2 - (intOf i).toNat)
        case atStart => exact ⟨0, by omega, rfl, by simpa [catKI, iC] using HO.out, HB1.out⟩
        case round =>
          obtain ⟨k, hk, rfl, ho, hb⟩ := hrel
          have HO2 := Lib.hid ho
          have HB2 := Lib.hid hb
          clear ho hb HO HB1
          obtain ⟨qx, qc, rfl, _, _⟩ := (ownSl HO2.out).shape
          have hbk := HBK.out.keep HB2.out
          have c0 := hbk.cell 0
          have c1 := hbk.cell 1
          simp only [List.getElem?_cons_zero, List.getElem?_cons_succ] at c0 c1
          have hu := SlR.keep HU.out HB2.out
          have hv := SlR.keep HV.out HB2.out
          have hsz := HB2.out.size
          have ho2 := HO2.out
          clear hbk
          by_cases k0 : k = 0
          · subst k0
            simp only [catKI, List.length_nil] at ho2 ⊢
            clear c1 hv
            go_wp2_with (refine Agg.append tiInt (.tmp 31) (.tmp 32) rfl rfl w.heap.size (v := .slice qx 0 qc) rfl ho2 rfl hu (iC_one L) (by unfold maxLen; omega) (by omega) hsz ?_; intro v' w4 hC4 hg4 _; simp only [Act.put, List.setIfInBounds_toArray, List.set_cons_succ, List.set_cons_zero])
            refine ⟨⟨1, by omega, rfl, ?_, HB2.out.trans (grown_below hg4 hsz (own_block ho2))⟩, by simp [intOf]⟩
            simpa [catKI, iC] using hC4
          · by_cases k1 : k = 1
            · subst k1
              simp only [catKI] at ho2 ⊢
              clear c0 hu
              go_wp2_with (refine Agg.append tiInt (.tmp 31) (.tmp 32) rfl rfl w.heap.size (v := .slice qx L.length qc) rfl ho2 rfl hv (iC_one M) (by unfold maxLen; omega) (by omega) hsz ?_; intro v' w4 hC4 hg4 _; simp only [Act.put, List.setIfInBounds_toArray, List.set_cons_succ, List.set_cons_zero])
              refine ⟨⟨2, by omega, rfl, ?_, HB2.out.trans (grown_below hg4 hsz (own_block ho2))⟩, by simp [intOf]⟩
              simpa [catKI, iC] using hC4
            · obtain rfl : k = 2 := by omega
              clear c0 c1 hu hv hsz
              simp only [catKI] at ho2 ⊢
              have HO3 := Lib.hid ho2
              clear ho2 HO2
              obtain ⟨nn, hnn⟩ : ∃ nn, (L ++ M).length = nn := ⟨_, rfl⟩
              rw [hnn] at HO3 ⊢
              have HNN := Lib.hid hnn
              clear hnn
              go_wp2_with fail
              go_ret
              exact ⟨_, rfl, by rw [HNN.out]; exact HO3.out, HB2.out⟩
end Go.Proofs.Ytgfmpkcgkjpgnaa
end
section
/-
  THE LENGTH of a slice of which only that is known, as an operation of a region. Over any program.
-/
namespace Agg
open Go Go.RowKit
section
variable {n kk : Nat} {P : Program} {l rest : List Oper} {W : World} {l0 : List Value} {ds : List Deferred} {acc : List R} {o : Oper} {fin : List R → Prop}
theorem chLenO {t e : TypeId} (ht : P.underlying t = some (.slice e)) {ts : Nat} (m : Nat) (j : Nat) {g : Value → World → Prop} (hl : ∀ v w, g v w → ∃ y c, v = .slice y m c) (ho : o.op = .call { callee := .builtin .len, args := #[.tmp ts], argTypes := #[t] }) (hd : depL o j = true) (hj : look kk acc j = some (.op g)) (ht2 : (l[j]?).map (·.dst) = some (some ts)) (hw : wants kk acc o = some true) (hk : gOk l o = true)
    (h : ChainR n P l.toArray W ⟨l0.toArray, ds⟩ (kk + 1) ((.pure (.int .i64 (m : Int))) :: acc) rest fin) : ChainR n P l.toArray W ⟨l0.toArray, ds⟩ kk acc (o :: rest) fin :=
  chPure (by rw [ho]; rfl) hw hk (fun a w hh w' => by
    obtain ⟨u, hu, hg⟩ := hh.op j ts hd hj ht2
    obtain ⟨y, c, rfl⟩ := hl u w hg
    simp [execOp, ho, resolve, hu, invoke, builtin, Builtin.len_, goInt, run_underlying ht]) h
end
end Agg
end
section
/-
  FILES: the layer wakes.
-/
namespace Go.Proofs.Ytgfmpkcgkjpgnaa
open Go.ChangeShapes Go.WideShapes Go.ChangeAt Go.RowKit Agg Pg Dv Fi
attribute [local go_sem] Oper.semAt_some

set_option maxHeartbeats 4000000 in
set_option maxRecDepth 100000 in
theorem wakes_any (w : World) :
    Calls Try.prog 9 #[] w fun e w' => e = .returned (.bool true) ∧ Below w.heap.size w w' := by
  obtain ⟨D0, hD0⟩ : ∃ D0, newD 24 = D0 := ⟨_, rfl⟩
  obtain ⟨D1, hD1⟩ : ∃ D1, wkD = D1 := ⟨_, rfl⟩
  obtain ⟨B, hBe⟩ : ∃ B, wkB = B := ⟨_, rfl⟩
  have G0 : DGood D0 := hD0 ▸ newD_good (by decide)
  have G1 : DGood D1 := hD1 ▸ wk_good
  have c0 : D0.cache.length ≤ 10000 := by rw [← hD0]; decide
  have c1 : D1.cache.length ≤ 10000 := by rw [← hD1, wk_cache]; decide
  have e1 := wk_put
  have e2 := wk_get
  have e3 := wk_none
  have bl := wkB_len
  rw [hD0, hBe, hD1] at e1
  rw [hD1, hBe] at e2
  rw [hD1] at e3
  rw [hBe] at bl
  have HBC : Hid (bv B = List.replicate 129 (.int .u8 0) ++ [.int .u8 7]) := Lib.hid (by rw [← hBe, wkB, bv_append, bv, List.map_replicate]; rfl)
  have HN : Hid (∀ W, Calls Try.prog 32 #[.int .i64 24] W fun e w' => ∃ u, e = .returned (.tuple #[u, .int .i64 0]) ∧ DevO W.heap.size w' u D0 ∧ Below W.heap.size W w') := Lib.hid (fun W => by have := new_R 24 (by decide) (by decide) W; rw [hD0] at this; exact this)
  have HP : Hid (∀ W v a b, DevR W v D0 → Ints W a [19, 21] → Bytes W b B → Calls Try.prog 22 #[v, a, .int .i64 3, .int .u64 5, b] W fun e w' => ∃ u, e = .returned (.tuple #[u, .int .i64 0]) ∧ DevR w' u D1 ∧ Below W.heap.size W w') := Lib.hid (fun W v a b hv ha hb => by have := fPut_any D0 [19, 21] 3 5 B v a b W G0 c0 hv ha hb (by decide) (by omega) (by decide); rw [e1] at this; exact this)
  have HG : Hid (∀ W v a, DevR W v D1 → Ints W a [19, 21] → Calls Try.prog 26 #[v, a, .int .i64 3, .int .i64 130] W fun e w' => ∃ u, e = .returned (.tuple #[u, .int .i64 0]) ∧ w'.ownsRow W.heap.size 5 1 u B.length (bv B) ∧ Below W.heap.size W w') := Lib.hid (fun W v a hv ha => by have := Get_any D1 [19, 21] 3 130 v a W G1 c1 hv ha (by decide) (by decide) (by decide); rw [e2] at this; exact this)
  have HG2 : Hid (∀ W v a, DevR W v D1 → Ints W a [19, 21] → Calls Try.prog 26 #[v, a, .int .i64 3, .int .i64 131] W fun e w' => ∃ u, e = .returned (.tuple #[u, .int .i64 300]) ∧ w'.ownsRow W.heap.size 5 1 u 0 (bv []) ∧ Below W.heap.size W w') := Lib.hid (fun W v a hv ha => by have := Get_any D1 [19, 21] 3 131 v a W G1 c1 hv ha (by decide) (by decide) (by decide); rw [e3] at this; exact this)
  have HTK : Hid (∀ W a, Ints W a [18, 20, 23] → Calls Try.prog 12 #[a, .int .i64 24, .int .i64 2] W fun e w' => ∃ u, e = .returned (.tuple #[u, .int .i64 0]) ∧ Ints w' u [19, 21] ∧ Below W.heap.size W w') := Lib.hid (fun W a ha => Take_any [18, 20, 23] a 24 2 W ha [19, 21] 0 wk_take)
  have HFR : Hid (∀ W, Calls Try.prog 11 #[.slice none 0 0, .int .i64 24] W fun e w' => ∃ u, e = .returned u ∧ w'.ownsRow W.heap.size 3 1 u (freeL [] 24).length (nI (freeL [] 24)) ∧ Below W.heap.size W w') := Lib.hid (fun W => Free_any [] (.slice none 0 0) 24 W (SlR.nil W 1))
  have HND : Hid (∀ W, Calls Try.prog 16 #[.int .i64 121] W fun e w' => e = .returned (.int .i64 2) ∧ Below W.heap.size W w') := Lib.hid (fun W => by have := need_any 121 (by decide) (by decide) W; rw [wk_need] at this; exact this)
  have HEQ : Hid (∀ W a b, Bytes W a B → Bytes W b B → Calls Try.prog 25 #[a, b] W fun e w' => e = .returned (.bool true) ∧ Below W.heap.size W w') := Lib.hid (fun W a b ha hb => eqY_any B B a b W ha hb true (by simp))
  have HEI : Hid (∀ W a b, Ints W a [19, 21] → Ints W b [19, 21] → Calls Try.prog 15 #[a, b] W fun e w' => e = .returned (.bool true) ∧ Below W.heap.size W w') := Lib.hid (fun W a b ha hb => eqI_any [19, 21] [19, 21] a b W ha hb true (by simp))
  have HBL := Lib.hid bl
  clear hD0 hD1 hBe c0 c1 e1 e2 e3 G0 G1 bl
  have HB := Lib.hid (Below.refl w.heap.size w)
  go_enter Try.func9, Try.ntmps9
  go_wp2_with fail
  refine (HN.out w).mono ?_
  rintro e w1 ⟨u, rfl, hu, hb⟩
  replace HB := Lib.hid (HB.out.trans (hb.mono HB.out.size))
  clear hb
  have HU := Lib.hid hu.read
  obtain ⟨px, pc, cx, cc, rfl⟩ := DevR.shape HU.out
  clear hu
  have HG1 : Hid (w.heap.size ≤ w1.heap.size) := Lib.hid HB.out.size
  go_upto_region 2 with (fail)
  refine Agg.wp_at fun w2 hw2 => ?_
  have hb : Below w1.heap.size w1 w2 := by rw [hw2.out]; repeat (first | exact Below.refl _ _ | refine Agg.bel_drew ?_ | refine Agg.bel_alloc ?_ _)
  replace HB := Lib.hid (HB.out.trans (hb.mono HB.out.size))
  replace HU := Lib.hid (HU.out.keep hb)
  clear hb
  have H1 : Hid (Blk w2 w1.heap.size 46 [.slice px D0.pages.length pc, .slice cx D0.cache.length cc, .int .i64 D0.fuse, .bool D0.off]) := by show Blk _ _ _ _; rw [hw2.out]; exact Blk.new w1 46 #[.slice px D0.pages.length pc, .slice cx D0.cache.length cc, .int .i64 D0.fuse, .bool D0.off]
  clear hw2
  generalize w1.heap.size = g1 at *
  have h1l := H1.out.lt
  have HUP := HU
  have H1P := H1
  have HBP := HB
  go_upto_region 3 with (first
    | (refine Agg.make ti25 _ _ rfl rfl 130 130 rfl rfl rfl rfl (Nat.le_refl _) (by decide) (by decide) ?_; simp only [Act.put, List.setIfInBounds_toArray, List.set_cons_succ, List.set_cons_zero]))
  obtain ⟨c, hce⟩ : ∃ c, w2.heap.size = c := ⟨_, rfl⟩
  rw [hce]
  refine Agg.wp_at fun w3 hw3 => ?_
  have hb : Below w2.heap.size w2 w3 := by rw [hw3.out]; repeat (first | exact Below.refl _ _ | refine Agg.bel_drew ?_ | refine Agg.bel_alloc ?_ _)
  replace HB := Lib.hid (HB.out.trans (hb.mono HB.out.size))
  replace HU := Lib.hid (HU.out.keep hb)
  replace H1 := Lib.hid (H1.out.keep hb)
  clear hb
  have HC : Hid (Blk w3 c 5 (List.replicate 130 (.int .u8 0))) := by show Blk _ _ _ _; rw [hw3.out]; exact made_blk w2 130 _ hce.symm
  have hbE : Below c w2 w3 := by rw [hw3.out, ← hce]; exact (Below.refl _ _).alloc (Nat.le_refl _) _
  clear hw3
  have hcb := HC.out
  go_upto_region 4 with (first
    | (refine Agg.gStoreCell 129 (.int .u8 7) hcb rfl rfl rfl rfl rfl (by kernel_rfl) rfl (by simp) rfl (fun w14 hb14 hg14 => ?_)))
  have hbF : Below w2.heap.size w2 w14 := by rw [hce]; exact hbE.trans (grown_below hg14 (by have := HC.out.lt; omega) (fun j hj => by cases hj; exact Nat.le_refl _))
  have HY : Hid (Bytes w14 (.slice (some ⟨c, 0, none⟩) 130 130) B) := by
    refine Lib.hid ?_
    have h := SlR.ofBlk hb14 0 130 130 (bv B) (by rw [HBC.out]; rfl) (by rw [bv_length, HBL.out]) (Nat.le_refl _) (by decide)
    show SlR _ _ 1 B.length (bv B)
    rw [HBL.out]; exact h
  clear HU H1 HB HC hbE hcb hb14 hg14 hce
  replace HUP := Lib.hid (HUP.out.keep hbF)
  replace H1P := Lib.hid (H1P.out.keep hbF)
  replace HBP := Lib.hid (HBP.out.trans (hbF.mono HBP.out.size))
  have HU := HUP
  have H1 := H1P
  have HB := HBP
  clear HUP H1P HBP hbF
  have h1 := H1.out
  go_wp2_with (first
    | (refine Agg.gLoadB 4 h1 rfl rfl rfl rfl (by decide +kernel) ?_; simp only [Act.put, List.setIfInBounds_toArray, List.set_cons_succ, List.set_cons_zero]))
  clear h1
  refine Agg.calls_at fun w21 hw21 => ?_
  have hb : Below w14.heap.size w14 w21 := by rw [hw21.out]; repeat (first | exact Below.refl _ _ | refine Agg.bel_drew ?_ | refine Agg.bel_alloc ?_ _)
  replace HB := Lib.hid (HB.out.trans (hb.mono HB.out.size))
  replace HU := Lib.hid (HU.out.keep hb)
  replace H1 := Lib.hid (H1.out.keep hb)
  replace HY := Lib.hid (HY.out.keep hb)
  clear hb
  have HA : Hid (Blk w21 w14.heap.size 3 [.int .i64 19, .int .i64 21]) := by show Blk _ _ _ _; rw [hw21.out]; exact Blk.new w14 3 #[.int .i64 19, .int .i64 21]
  clear hw21
  have HAI : Hid (Ints w21 (.slice (some ⟨w14.heap.size, 0, none⟩) 2 2) [19, 21]) := Lib.hid (SlR.ofBlk HA.out 0 2 2 _ rfl rfl (Nat.le_refl _) (by decide))
  generalize w14.heap.size = ga at *
  refine (HP.out w21 _ _ _ HU.out HAI.out HY.out).mono ?_
  rintro e w22 ⟨u2, rfl, hu2, hb⟩
  replace HB := Lib.hid (HB.out.trans (hb.mono HB.out.size))
  replace HU := Lib.hid (HU.out.keep hb)
  replace H1 := Lib.hid (H1.out.keep hb)
  replace HY := Lib.hid (HY.out.keep hb)
  clear hb
  have HV := Lib.hid hu2
  obtain ⟨px2, pc2, cx2, cc2, rfl⟩ := DevR.shape HV.out
  clear hu2 HU H1 HA HAI
  go_upto_region 5 with (fail)
  refine Agg.wp_at fun w23 hw23 => ?_
  have hb : Below w22.heap.size w22 w23 := by rw [hw23.out]; repeat (first | exact Below.refl _ _ | refine Agg.bel_drew ?_ | refine Agg.bel_alloc ?_ _)
  replace HB := Lib.hid (HB.out.trans (hb.mono HB.out.size))
  replace HY := Lib.hid (HY.out.keep hb)
  replace HV := Lib.hid (HV.out.keep hb)
  clear hb
  have H2 : Hid (Blk w23 w22.heap.size 46 [.slice px2 D1.pages.length pc2, .slice cx2 D1.cache.length cc2, .int .i64 D1.fuse, .bool D1.off]) := by show Blk _ _ _ _; rw [hw23.out]; exact Blk.new w22 46 #[.slice px2 D1.pages.length pc2, .slice cx2 D1.cache.length cc2, .int .i64 D1.fuse, .bool D1.off]
  clear hw23
  generalize w22.heap.size = g2 at *
  have h2 := H2.out
  go_wp2_with (first
    | (refine Agg.gLoadB 4 h2 rfl rfl rfl rfl (by decide +kernel) ?_; simp only [Act.put, List.setIfInBounds_toArray, List.set_cons_succ, List.set_cons_zero]))
  clear h2
  refine Agg.calls_at fun w24 hw24 => ?_
  have hb : Below w23.heap.size w23 w24 := by rw [hw24.out]; repeat (first | exact Below.refl _ _ | refine Agg.bel_drew ?_ | refine Agg.bel_alloc ?_ _)
  replace HB := Lib.hid (HB.out.trans (hb.mono HB.out.size))
  replace HY := Lib.hid (HY.out.keep hb)
  replace HV := Lib.hid (HV.out.keep hb)
  replace H2 := Lib.hid (H2.out.keep hb)
  clear hb
  have HA : Hid (Blk w24 w23.heap.size 3 [.int .i64 19, .int .i64 21]) := by show Blk _ _ _ _; rw [hw24.out]; exact Blk.new w23 3 #[.int .i64 19, .int .i64 21]
  clear hw24
  have HAI : Hid (Ints w24 (.slice (some ⟨w23.heap.size, 0, none⟩) 2 2) [19, 21]) := Lib.hid (SlR.ofBlk HA.out 0 2 2 _ rfl rfl (Nat.le_refl _) (by decide))
  generalize w23.heap.size = gb at *
  refine (HG.out w24 _ _ HV.out HAI.out).mono ?_
  rintro e w25 ⟨u3, rfl, hu3, hb⟩
  replace HB := Lib.hid (HB.out.trans (hb.mono HB.out.size))
  replace HY := Lib.hid (HY.out.keep hb)
  replace HV := Lib.hid (HV.out.keep hb)
  replace H2 := Lib.hid (H2.out.keep hb)
  clear hb
  have HY3 := Lib.hid (ownSl hu3)
  obtain ⟨ux3, uc3, rfl, _, _⟩ := (ownSl hu3).shape
  clear hu3 HA HAI
  have h2 := H2.out
  go_wp2_with (first
    | (refine Agg.gLoadB 4 h2 rfl rfl rfl rfl (by decide +kernel) ?_; simp only [Act.put, List.setIfInBounds_toArray, List.set_cons_succ, List.set_cons_zero]))
  clear h2
  refine Agg.calls_at fun w26 hw26 => ?_
  have hb : Below w25.heap.size w25 w26 := by rw [hw26.out]; repeat (first | exact Below.refl _ _ | refine Agg.bel_drew ?_ | refine Agg.bel_alloc ?_ _)
  replace HB := Lib.hid (HB.out.trans (hb.mono HB.out.size))
  replace HY := Lib.hid (HY.out.keep hb)
  replace HV := Lib.hid (HV.out.keep hb)
  replace H2 := Lib.hid (H2.out.keep hb)
  replace HY3 := Lib.hid (HY3.out.keep hb)
  clear hb
  have HA : Hid (Blk w26 w25.heap.size 3 [.int .i64 19, .int .i64 21]) := by show Blk _ _ _ _; rw [hw26.out]; exact Blk.new w25 3 #[.int .i64 19, .int .i64 21]
  clear hw26
  have HAI : Hid (Ints w26 (.slice (some ⟨w25.heap.size, 0, none⟩) 2 2) [19, 21]) := Lib.hid (SlR.ofBlk HA.out 0 2 2 _ rfl rfl (Nat.le_refl _) (by decide))
  generalize w25.heap.size = gd at *
  refine (HG2.out w26 _ _ HV.out HAI.out).mono ?_
  rintro e w27 ⟨u4, rfl, hu4, hb⟩
  replace HB := Lib.hid (HB.out.trans (hb.mono HB.out.size))
  replace HY := Lib.hid (HY.out.keep hb)
  replace HV := Lib.hid (HV.out.keep hb)
  replace H2 := Lib.hid (H2.out.keep hb)
  replace HY3 := Lib.hid (HY3.out.keep hb)
  clear hb
  obtain ⟨ux4, uc4, rfl, _, _⟩ := (ownSl hu4).shape
  clear hu4 HA HAI HV H2
  go_wp2_with fail
  refine Agg.calls_at fun w28 hw28 => ?_
  have hb : Below w27.heap.size w27 w28 := by rw [hw28.out]; repeat (first | exact Below.refl _ _ | refine Agg.bel_drew ?_ | refine Agg.bel_alloc ?_ _)
  replace HB := Lib.hid (HB.out.trans (hb.mono HB.out.size))
  replace HY := Lib.hid (HY.out.keep hb)
  replace HY3 := Lib.hid (HY3.out.keep hb)
  clear hb
  have HA : Hid (Blk w28 w27.heap.size 3 [.int .i64 18, .int .i64 20, .int .i64 23]) := by show Blk _ _ _ _; rw [hw28.out]; exact Blk.new w27 3 #[.int .i64 18, .int .i64 20, .int .i64 23]
  clear hw28
  have HAI : Hid (Ints w28 (.slice (some ⟨w27.heap.size, 0, none⟩) 3 3) [18, 20, 23]) := Lib.hid (SlR.ofBlk HA.out 0 3 3 _ rfl rfl (Nat.le_refl _) (by decide))
  generalize w27.heap.size = gf at *
  refine (HTK.out w28 _ HAI.out).mono ?_
  rintro e w29 ⟨u5, rfl, hu5, hb⟩
  replace HB := Lib.hid (HB.out.trans (hb.mono HB.out.size))
  replace HY := Lib.hid (HY.out.keep hb)
  replace HY3 := Lib.hid (HY3.out.keep hb)
  clear hb
  have HT5 := Lib.hid hu5
  obtain ⟨ux5, uc5, rfl, _, _⟩ := SlR.shape hu5
  clear hu5 HA HAI
  have hfl := wk_free
  go_upto_region 8 with (fail)
  refine Agg.listR 38 (by kernel_rfl) ?_
  simp only [List.take_succ_cons, List.take_zero, List.drop_succ_cons, List.drop_zero]
  refine Agg.chMove rfl rfl rfl rfl ?_
  refine Agg.chEq true (by decide) rfl rfl rfl rfl rfl ?_
  refine Agg.chMove rfl rfl rfl rfl ?_
  refine Agg.chMove rfl rfl rfl rfl ?_
  refine Agg.chEq true (by decide) rfl rfl rfl rfl rfl ?_
  refine Agg.chPick rfl rfl rfl rfl rfl ?_
  refine Agg.chMove rfl rfl rfl rfl ?_
  refine Agg.chMove rfl rfl rfl rfl ?_
  refine Agg.chEq true (by decide) rfl rfl rfl rfl rfl ?_
  refine Agg.chPick rfl rfl rfl rfl rfl ?_
  refine Agg.chMove rfl rfl rfl rfl ?_
  refine Agg.chMove rfl rfl rfl rfl ?_
  refine Agg.chEq true (by decide) rfl rfl rfl rfl rfl ?_
  refine Agg.chPick rfl rfl rfl rfl rfl ?_
  refine Agg.chMove rfl rfl rfl rfl ?_
  refine Agg.chMove rfl rfl rfl rfl ?_
  refine Agg.chEq true (by decide) rfl rfl rfl rfl rfl ?_
  refine Agg.chPick rfl rfl rfl rfl rfl ?_
  refine Agg.chMove rfl rfl rfl rfl ?_
  refine Agg.chMove rfl rfl rfl rfl ?_
  refine Agg.chMove rfl rfl rfl rfl ?_
  refine Agg.chCall Try.func25 rfl (by kernel_rfl) rfl rfl rfl rfl (fun W hb => HEQ.out W _ _ (SlR.keep HY.out hb) (SlR.keep HY3.out hb)) ?_
  refine Agg.chPick rfl rfl rfl rfl rfl ?_
  refine Agg.chMove rfl rfl rfl rfl ?_
  refine Agg.chMove rfl rfl rfl rfl ?_
  refine Agg.chBuildSlice (e := 3) #[.int .i64 19, .int .i64 21] rfl rfl rfl rfl (fun _ => by kernel_rfl) ?_
  refine Agg.chCall2 Try.func15 rfl (by kernel_rfl) (.bool true) 25 rfl rfl rfl rfl rfl rfl rfl (fun u W hb hu => HEI.out W _ u (SlR.keep HT5.out hb) (NewSl.sl (sz := 1) hu rfl (by decide))) ?_
  refine Agg.chPick rfl rfl rfl rfl rfl ?_
  refine Agg.chMove rfl rfl rfl rfl ?_
  refine Agg.chCallG Try.func11 rfl (by kernel_rfl) (fun v _ => ∃ y c, v = .slice y 6 c) (fun _ _ _ h _ => h) rfl rfl rfl rfl (fun W hb => Calls.mono (HFR.out W) (by rintro e w2 ⟨v, rfl, h, h2⟩; obtain ⟨y, c, rfl, _, _⟩ := (ownSl h).shape; rw [hfl]; exact ⟨_, rfl, ⟨_, _, rfl⟩, h2⟩)) ?_
  refine Agg.chLenO Try.underlying22 6 29 (fun _ _ h => h) rfl rfl rfl rfl rfl rfl ?_
  refine Agg.chEq true (by decide) rfl rfl rfl rfl rfl ?_
  refine Agg.chPick rfl rfl rfl rfl rfl ?_
  refine Agg.chMove rfl rfl rfl rfl ?_
  refine Agg.chCall Try.func16 rfl (by kernel_rfl) rfl rfl rfl rfl (fun W hb => HND.out W) ?_
  refine Agg.chEq true (by decide) rfl rfl rfl rfl rfl ?_
  refine Agg.chPick rfl rfl rfl rfl rfl ?_
  refine Agg.chAssign rfl rfl rfl rfl ?_
  refine Agg.chEnd ?_
  intro vs w30 hb _
  show Exit.then _ _ Exit.normal _ _
  simp only [List.reverse, List.reverseAux, Agg.fill, List.set_cons_succ, List.set_cons_zero]
  replace HB := Lib.hid (HB.out.trans (hb.mono HB.out.size))
  replace HY := Lib.hid (HY.out.keep hb)
  replace HY3 := Lib.hid (HY3.out.keep hb)
  replace HT5 := Lib.hid (HT5.out.keep hb)
  clear hb
  go_wp2_with fail
  go_ret
  exact ⟨rfl, HB.out⟩
end Go.Proofs.Ytgfmpkcgkjpgnaa
end
section
/-
  FILES: a disk that is told, in plain Lean; a device of its own in a variable, page by page.
-/
namespace Fi
open Go Go.RowKit Agg Pg Dv
/-- a file that is told, and where its rows lie -/
structure FileV where
  at_ : List Int
  kind : Int
  bytes : List UInt8
  va : Value
  vb : Value
def fiC (f : FileV) : List Value := [f.va, .int .i64 f.kind, f.vb]
structure DiskD where
  n : Int
  files : List FileV
  held : List PgD
  cache : List PgD
  fuse : Int
  off : Bool
def diskC (x : DiskD) (fv hv cv : Value) : List Value := [.int .i64 x.n, fv, hv, cv, .int .i64 x.fuse, .bool x.off]
def diN (x : DiskD) : Nat := (min (max x.n 0) 257).toNat
def setPgs (P : List (List Sec)) (l : List (Int × List Sec)) : List (List Sec) := l.foldl (fun P x => P.set x.1.toNat x.2) P
theorem setPgs_length (P : List (List Sec)) (l : List (Int × List Sec)) : (setPgs P l).length = P.length := by
  induction l generalizing P with
  | nil => rfl
  | cons x l ih => show (setPgs (P.set x.1.toNat x.2) l).length = _; rw [ih, List.length_set]
theorem setPgs_bok {P : List (List Sec)} (hP : ∀ b ∈ P, BOk b) (l : List (Int × List Sec)) (hl : ∀ x ∈ l, BOk x.2) : ∀ b ∈ setPgs P l, BOk b := by
  induction l generalizing P with
  | nil => exact hP
  | cons x l ih => exact ih (set_bok hP _ (hl x (by simp))) (fun y hy => hl y (by simp [hy]))
theorem setPgs_snoc (P : List (List Sec)) (l : List (Int × List Sec)) (x : Int × List Sec) : setPgs P (l ++ [x]) = (setPgs P l).set x.1.toNat x.2 := by unfold setPgs; rw [List.foldl_append]; rfl
end Fi
namespace Go.Proofs.Ytgfmpkcgkjpgnaa
open Go.ChangeShapes Go.WideShapes Go.ChangeAt Go.RowKit Agg Pg Dv Fi
theorem pgs_split (P : List (List Sec)) (p : Nat) (h : p < P.length) (b : List Sec) (r : List Value) : (P.set p b).flatMap blkC ++ r = (P.take p).flatMap blkC ++ (blkC b ++ ((P.drop (p + 1)).flatMap blkC ++ r)) := by
  rw [List.set_eq_take_append_cons_drop, if_pos h, List.flatMap_append, List.flatMap_cons]
  simp only [List.append_assoc]
theorem pgs_split0 (P : List (List Sec)) (p : Nat) (h : p < P.length) (r : List Value) : P.flatMap blkC ++ r = (P.take p).flatMap blkC ++ (blkC P[p] ++ ((P.drop (p + 1)).flatMap blkC ++ r)) := by
  have e := pgs_split P p h P[p] r
  rwa [List.set_getElem_self] at e
theorem pgs_pre (P : List (List Sec)) (hP : ∀ b ∈ P, BOk b) (p : Nat) (h : p < P.length) : ((P.take p).flatMap blkC).length = p * 132 := by
  rw [flat_len blkC 132 _ (fun b hb => bok_cells (hP b (List.mem_of_mem_take hb))), List.length_take]
  rw [Nat.min_eq_left (by omega)]
/-- a device of its own in a variable -/
def DskA (base : Nat) (w : World) (g : Nat) (d : Dev) : Prop := ∃ p c, base ≤ g ∧ Blk w g 46 [p, c, .int .i64 d.fuse, .bool d.off] ∧ w.ownsRow base 64 132 p d.pages.length (d.pages.flatMap blkC) ∧ w.ownsRow base 88 133 c d.cache.length (d.cache.flatMap wrC)
theorem DskA.keep {base g : Nat} {w w' : World} {d : Dev} (h : DskA base w g d) (hb : Below w.heap.size w w') : DskA base w' g d := by
  obtain ⟨p, c, h0, h1, h2, h3⟩ := h
  exact ⟨p, c, h0, h1.keep hb, own_keep h2 hb, own_keep h3 hb⟩
theorem DskA.lt {base g : Nat} {w : World} {d : Dev} (h : DskA base w g d) : g < w.heap.size := by
  obtain ⟨p, c, h0, h1, h2, h3⟩ := h; exact h1.lt
theorem DskA.shape {base g : Nat} {w : World} {d : Dev} (h : DskA base w g d) : ∃ px pc cx cc, base ≤ g ∧ Blk w g 46 [.slice px d.pages.length pc, .slice cx d.cache.length cc, .int .i64 d.fuse, .bool d.off] ∧ DevO base w (.agg #[.slice px d.pages.length pc, .slice cx d.cache.length cc, .int .i64 d.fuse, .bool d.off]) d := by
  obtain ⟨p, c, h0, h1, h2, h3⟩ := h
  obtain ⟨px, pc, rfl, _, _⟩ := (ownSl h2).shape
  obtain ⟨cx, cc, rfl, _, _⟩ := (ownSl h3).shape
  exact ⟨px, pc, cx, cc, h0, h1, _, _, rfl, h2, h3⟩
theorem DskA.other {base g t : Nat} {w w' : World} {d : Dev} {T : TypeId} {cs : List Value} (h : DskA base w g d) (hb : Blk w t T cs) (h0 : g ≠ t) (h1 : 64 ≠ T) (h2 : 88 ≠ T) (hg : w.grownBy w' (some t)) : DskA base w' g d := by
  obtain ⟨p, c, e, h3, hp, hc⟩ := h
  exact ⟨p, c, e, h3.far' hg h0, hp.kept hg (own_apart hp hb h1), hc.kept hg (own_apart hc hb h2)⟩
/-- a page of it may be written -/
theorem DskA.page {base g : Nat} {w : World} {d : Dev} (h : DskA base w g d) (hn : 0 < d.pages.length) : ∃ pg pc cx cc r, base ≤ g ∧ Blk w g 46 [.slice (some ⟨pg, 0, none⟩) d.pages.length pc, .slice cx d.cache.length cc, .int .i64 d.fuse, .bool d.off] ∧ Blk w pg 64 (d.pages.flatMap blkC ++ r) ∧ base ≤ pg ∧ pg ≠ g ∧
    (∀ w' Q, Q.length = d.pages.length → (∀ b ∈ Q, BOk b) → (∀ b ∈ d.pages, BOk b) → Blk w' pg 64 (Q.flatMap blkC ++ r) → w.grownBy w' (some pg) → DskA base w' g { d with pages := Q }) := by
  obtain ⟨p, c, h0, h1, h2, h3⟩ := h
  obtain ⟨cx, cc, rfl, _, _⟩ := (ownSl h3).shape
  rcases h2.2 with ⟨rfl, h⟩ | ⟨pg, pc, cur, rfl, hb, hh, hc1, hc2, hc3, hc4⟩
  · omega
  · obtain ⟨r, hr1, hr2, hr3, hr4, hr5⟩ := own_blk h2
    have hne : pg ≠ g := blk_ne hr1 h1 bDne
    refine ⟨pg, pc, cx, cc, r, h0, h1, hr1, hr2, hne, fun w' Q hQ hQb hPb hb2 hg2 => ⟨_, _, h0, h1.far' hg2 (Ne.symm hne), ?_, h3.kept hg2 (own_apart h3 hr1 (Ne.symm bWne))⟩⟩
    have hql : (Q.flatMap blkC).length = d.pages.length * 132 := by rw [flat_len blkC 132 _ (fun b hb => bok_cells (hQb b hb)), hQ]
    have hpl : (d.pages.flatMap blkC).length = d.pages.length * 132 := by rw [flat_len blkC 132 _ (fun b hb => bok_cells (hPb b hb))]
    show w'.ownsRow base _ 132 _ Q.length _
    rw [hQ]
    exact blk_own hb2 hr2 hr3 hr4 (by rw [List.length_append] at hr5 ⊢; rw [hql]; rw [hpl] at hr5; exact hr5) hql
end Go.Proofs.Ytgfmpkcgkjpgnaa
end
