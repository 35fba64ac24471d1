/-
  APPEND OF A ROW THAT IS MADE (append(s, make([]T, n)...)), s nil. Over any program.
-/
import Derived.Laws.AppendOwn
import Derived.Test.YtgfmpkcgkjpgnaaFi3
import Derived.Test.YtgfmpkcgkjpgnaaFiB
import Derived.Test.YtgfmpkcgkjpgnaaMake
section
namespace Agg
open Go Go.RowKit
theorem run_append_made {P : Program} {t e it : TypeId} {size bytes : Nat} {z : Value} {k : IntKind} (T : TI P t e size bytes z) (hit : P.underlying it = some (.int k)) (ty : TypeId) (w : World) (n : Nat) (h0 : 0 < n) (h63 : n ≤ maxLen) (hb : n * bytes ≤ 140737488355328) (hs0 : 0 < size) :
    ∃ c w', (Builtin.append_ #[t, it] ty #[.slice none 0 0, .int .i64 (n : Int)]).run P w = .ok (.slice (some ⟨w.heap.size, 0, none⟩) n c) w' ∧ w'.ownsRow w.heap.size e size (.slice (some ⟨w.heap.size, 0, none⟩) 0 c) 0 [] ∧ Below w.heap.size w w' ∧ n ≤ c := by
  obtain ⟨i, hi, hz, hs, hbt⟩ := T.info
  have hn : n ≠ 0 := by omega
  have h63n : (n : Int) ≤ 9223372036854775807 := by unfold maxLen at h63; omega
  have h63' : ¬ (9223372036854775807 < (n : Int)) := by omega
  have hw : IntKind.i64.wrap (n : Int) = n := by simp [IntKind.wrap, IntKind.bits, IntKind.signed]; omega
  have hneg : ¬ ((n : Int) < 0) := by omega
  have h48' : ¬ (281474976710656 < Builtin.nextslicecap n 0 * i.bytes) := by rw [nextslicecap_zero h0, hbt]; omega
  have h48i : ¬ (281474976710656 < (n : Int) * (i.bytes : Int)) := by
    rw [hbt]
    have : ((n * bytes : Nat) : Int) ≤ 140737488355328 := by omega
    rw [Int.natCast_mul] at this; omega
  have hnz : ¬ (n = 0 ∨ i.size = 0) := by rw [hs]; omega
  have hmx : max (n : Int) 0 = n := by omega
  have hle0 : ¬ ((n : Int) ≤ 0) := by omega
  have hge := grownCap_ge w n 0 e
  have hle := grownCap_le_maxLen w n 0 e h63
  have hzs : z.cells.size = size := T.hzs
  refine ⟨grownCap w n 0 e, w.drew.alloc (.cells (Builtin.zeroCells z.cells n ++ Builtin.zeroCells z.cells (grownCap w n 0 e - n)) e), ?_, ⟨by simp, .inr ⟨w.heap.size, _, Builtin.zeroCells z.cells n ++ Builtin.zeroCells z.cells (grownCap w n 0 e - n), rfl, Nat.le_refl _, ?_, Nat.zero_le _, hle, ?_, by simp⟩⟩, ?_, hge⟩
  · simp [Builtin.append_, run_underlying T.ht, run_underlying hit, Go.sizeOf, typeInfo, zeroValue, hi, hz, asInt, asIntOf, hw, hneg, hmx, hle0, hn, h63', h48', h48i, hnz, Question.forced, run_firstCells_none, newRow, grownCap, Builtin.firstCells]
    intro h
    exact absurd (Nat.mul_eq_zero.1 h) hnz
  · exact heap_alloc_new w.drew _
  · rw [Array.size_append, size_zeroCells, size_zeroCells, hzs, ← Nat.add_mul]; congr 1; omega
  · exact (bel_drew (Below.refl _ w)).alloc (Nat.le_refl _) _
section
variable {P : Program} {ops : Array Oper} {rest : List Oper} {o : Oper} {a : Act} {w : World} {Q : Exit → Act → World → Prop}
theorem appendMade {t e it : TypeId} {size bytes : Nat} {z : Value} {k : IntKind} (T : TI P t e size bytes z) (hit : P.underlying it = some (.int k)) (s x : Operand) (hg : o.guard = none) (ho : o.op = .call { callee := .builtin .append, args := #[s, x], argTypes := #[t, it] })
    (n : Nat) (hs : a.eval s = .slice none 0 0) (hx : a.eval x = .int .i64 (n : Int)) (h0 : 0 < n) (h63 : n ≤ maxLen) (hb : n * bytes ≤ 140737488355328) (hs0 : 0 < size)
    (h : ∀ c w', w'.ownsRow w.heap.size e size (.slice (some ⟨w.heap.size, 0, none⟩) 0 c) 0 [] → Below w.heap.size w w' → n ≤ c → wpList P ops Q rest (a.put o.dst (.slice (some ⟨w.heap.size, 0, none⟩) n c)) w') : wpList P ops Q (o :: rest) a w := by
  obtain ⟨c, w', hr, h2, h3, h4⟩ := run_append_made T hit o.type w n h0 h63 hb hs0
  refine run hg _ w' ?_ (h c w' h2 h3 h4)
  simp [execOp, ho, resolve, hs, hx, invoke, builtin, hr]
end
end Agg
end
section
/-
  FILES: slices.Concat of two rows of numbers.
-/
namespace Go.Proofs.Ytgfmpkcgkjpgnaa
open Go.ChangeShapes Go.WideShapes Go.ChangeAt Go.RowKit Agg Pg Dv Fi

theorem growI_any (n : Nat) (w : World) (hn : n ≤ 1000000) :
    Calls Try.prog 36 #[.slice none 0 0, .int .i64 n] w fun e w' => ∃ x c, e = .returned (.slice x 0 c) ∧ w'.ownsRow w.heap.size 3 1 (.slice x 0 c) 0 [] ∧ Below w.heap.size w w' := by
  have h0b : ¬ (n : Int) < 0 := by omega
  by_cases h0 : 0 < n
  · have h0c : (n : Int) > 0 := by omega
    have HB := Lib.hid (Below.refl w.heap.size w)
    go_enter Try.func36, Try.ntmps36
    go_wp2_with (refine Agg.appendMade tiInt (k := .i64) (by kernel_rfl) (.tmp 20) (.tmp 21) rfl rfl n rfl rfl h0 (by unfold maxLen; omega) (by omega) (by decide) (fun c w9 ho hb hc => ?_); simp only [Act.put, List.setIfInBounds_toArray, List.set_cons_succ, List.set_cons_zero])
    go_ret
    exact ⟨_, _, rfl, ho, hb⟩
  · obtain rfl : n = 0 := by omega
    have HB := Lib.hid (Below.refl w.heap.size w)
    go_enter Try.func36, Try.ntmps36
    go_wp2_with fail
    go_ret
    exact ⟨_, _, rfl, World.ownsRow_nil _ _ _ _, HB.out⟩
def szKI (L M : List Int) : Nat → Nat
  | 0 => 0
  | 1 => L.length
  | _ => L.length + M.length
def catKI (L M : List Int) : Nat → List Int
  | 0 => []
  | 1 => L
  | _ => L ++ M
theorem catI_len (L M : List Int) (k : Nat) : (catKI L M k).length = szKI L M k := by
  unfold catKI szKI
  split <;> simp
set_option maxHeartbeats 4000000 in
set_option maxRecDepth 100000 in
theorem concatI_any (L M : List Int) (u v : Value) (b : Nat) (w : World) (hb : Blk w b 22 [u, v]) (hu : Ints w u L) (hv : Ints w v M) (hL2 : L.length ≤ 400) (hM2 : M.length ≤ 400) :
    Calls Try.prog 14 #[.slice (some ⟨b, 0, none⟩) 2 2] w fun e w' => ∃ q, e = .returned q ∧ w'.ownsRow w.heap.size 3 1 q (L ++ M).length (iC (L ++ M)) ∧ Below w.heap.size w w' := by
  obtain ⟨x, cx, rfl, _, _⟩ := SlR.shape hu
  obtain ⟨y, cy, rfl, _, _⟩ := SlR.shape hv
  have HBK := Lib.hid hb
  have HU := Lib.hid hu
  have HV := Lib.hid hv
  clear hb hu hv
  have HB := Lib.hid (Below.refl w.heap.size w)
  go_enter Try.func14, Try.ntmps14
  go_wp2_with fail
  go_loopw [3, 11] (fun s i wr => ∃ k : Nat, k ≤ 2 ∧ i = .int .i64 k ∧ s = .int .i64 (szKI L M k : Int) ∧ wr = w) (fun _ i _ => 2 - (intOf i).toNat)
  case atStart => exact ⟨0, by omega, rfl, rfl, rfl⟩
  case round =>
    obtain ⟨k, hk, rfl, rfl, hwr⟩ := hrel
    replace hwr := hwr.symm
    subst hwr
    have c0 := HBK.out.cell 0
    have c1 := HBK.out.cell 1
    simp only [List.getElem?_cons_zero, List.getElem?_cons_succ] at c0 c1
    by_cases k0 : k = 0
    · subst k0
      have hpos : ¬ (L.length : Int) < 0 := by omega
      simp only [szKI]
      go_wp2_with fail
      exact ⟨⟨1, by omega, rfl, by simp [szKI], by first | rfl | trivial⟩, by simp [intOf]⟩
    · by_cases k1 : k = 1
      · subst k1
        have hpos : ¬ (L.length : Int) + (M.length : Int) < 0 := by omega
        simp only [szKI]
        go_wp2_with fail
        exact ⟨⟨2, by omega, rfl, by simp [szKI], by first | rfl | trivial⟩, by simp [intOf]⟩
      · obtain rfl : k = 2 := by omega
        clear c0 c1
        obtain ⟨n, hn⟩ : ∃ n, szKI L M 2 = n := ⟨_, rfl⟩
        have hn2 : n = L.length + M.length := by rw [← hn]; rfl
        rw [hn]
        clear hn
        have HN := Lib.hid hn2
        clear hn2
        have hn3 : n ≤ 800 := by have := HN.out; omega
        go_wp2_with fail
        refine (growI_any n w (by omega)).mono ?_
        rintro e w1 ⟨gx, c, rfl, ho, hb1⟩
        have HO := Lib.hid ho
        have HB1 := Lib.hid hb1
        clear ho hb1
        go_wp2_with fail
        go_loopw [6, 27] (fun q i W => ∃ k : Nat, k ≤ 2 ∧ i = .int .i64 k ∧ W.ownsRow w.heap.size 3 1 q (catKI L M k).length (iC (catKI L M k)) ∧ Below w.heap.size w W) (fun _ i _ => 2 - (intOf i).toNat)
        case atStart => exact ⟨0, by omega, rfl, by simpa [catKI, iC] using HO.out, HB1.out⟩
        case round =>
          obtain ⟨k, hk, rfl, ho, hb⟩ := hrel
          have HO2 := Lib.hid ho
          have HB2 := Lib.hid hb
          clear ho hb HO HB1
          obtain ⟨qx, qc, rfl, _, _⟩ := (ownSl HO2.out).shape
          have hbk := HBK.out.keep HB2.out
          have c0 := hbk.cell 0
          have c1 := hbk.cell 1
          simp only [List.getElem?_cons_zero, List.getElem?_cons_succ] at c0 c1
          have hu := SlR.keep HU.out HB2.out
          have hv := SlR.keep HV.out HB2.out
          have hsz := HB2.out.size
          have ho2 := HO2.out
          clear hbk
          by_cases k0 : k = 0
          · subst k0
            simp only [catKI, List.length_nil] at ho2 ⊢
            clear c1 hv
            go_wp2_with (refine Agg.append tiInt (.tmp 31) (.tmp 32) rfl rfl w.heap.size (v := .slice qx 0 qc) rfl ho2 rfl hu (iC_one L) (by unfold maxLen; omega) (by omega) hsz ?_; intro v' w4 hC4 hg4 _; simp only [Act.put, List.setIfInBounds_toArray, List.set_cons_succ, List.set_cons_zero])
            refine ⟨⟨1, by omega, rfl, ?_, HB2.out.trans (grown_below hg4 hsz (own_block ho2))⟩, by simp [intOf]⟩
            simpa [catKI, iC] using hC4
          · by_cases k1 : k = 1
            · subst k1
              simp only [catKI] at ho2 ⊢
              clear c0 hu
              go_wp2_with (refine Agg.append tiInt (.tmp 31) (.tmp 32) rfl rfl w.heap.size (v := .slice qx L.length qc) rfl ho2 rfl hv (iC_one M) (by unfold maxLen; omega) (by omega) hsz ?_; intro v' w4 hC4 hg4 _; simp only [Act.put, List.setIfInBounds_toArray, List.set_cons_succ, List.set_cons_zero])
              refine ⟨⟨2, by omega, rfl, ?_, HB2.out.trans (grown_below hg4 hsz (own_block ho2))⟩, by simp [intOf]⟩
              simpa [catKI, iC] using hC4
            · obtain rfl : k = 2 := by omega
              clear c0 c1 hu hv hsz
              simp only [catKI] at ho2 ⊢
              have HO3 := Lib.hid ho2
              clear ho2 HO2
              obtain ⟨nn, hnn⟩ : ∃ nn, (L ++ M).length = nn := ⟨_, rfl⟩
              rw [hnn] at HO3 ⊢
              have HNN := Lib.hid hnn
              clear hnn
              go_wp2_with fail
              go_ret
              exact ⟨_, rfl, by rw [HNN.out]; exact HO3.out, HB2.out⟩
end Go.Proofs.Ytgfmpkcgkjpgnaa
end
section
/-
  THE LENGTH of a slice of which only that is known, as an operation of a region. Over any program.
-/
namespace Agg
open Go Go.RowKit
section
variable {n kk : Nat} {P : Program} {l rest : List Oper} {W : World} {l0 : List Value} {ds : List Deferred} {acc : List R} {o : Oper} {fin : List R → Prop}
theorem chLenO {t e : TypeId} (ht : P.underlying t = some (.slice e)) {ts : Nat} (m : Nat) (j : Nat) {g : Value → World → Prop} (hl : ∀ v w, g v w → ∃ y c, v = .slice y m c) (ho : o.op = .call { callee := .builtin .len, args := #[.tmp ts], argTypes := #[t] }) (hd : depL o j = true) (hj : look kk acc j = some (.op g)) (ht2 : (l[j]?).map (·.dst) = some (some ts)) (hw : wants kk acc o = some true) (hk : gOk l o = true)
    (h : ChainR n P l.toArray W ⟨l0.toArray, ds⟩ (kk + 1) ((.pure (.int .i64 (m : Int))) :: acc) rest fin) : ChainR n P l.toArray W ⟨l0.toArray, ds⟩ kk acc (o :: rest) fin :=
  chPure (by rw [ho]; rfl) hw hk (fun a w hh w' => by
    obtain ⟨u, hu, hg⟩ := hh.op j ts hd hj ht2
    obtain ⟨y, c, rfl⟩ := hl u w hg
    simp [execOp, ho, resolve, hu, invoke, builtin, Builtin.len_, goInt, run_underlying ht]) h
end
end Agg
end
