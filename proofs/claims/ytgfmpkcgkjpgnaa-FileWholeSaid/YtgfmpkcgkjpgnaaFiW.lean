/-
  FILES: a file in memory of its own; bytes cloned.
-/
import Derived.Test.YtgfmpkcgkjpgnaaFiS
import Derived.Test.YtgfmpkcgkjpgnaaRest
import Derived.Test.YtgfmpkcgkjpgnaaFi1
section
namespace Agg
open Go Go.RowKit
section
variable {n kk : Nat} {P : Program} {l rest : List Oper} {W : World} {l0 : List Value} {ds : List Deferred} {acc : List R} {o : Oper} {fin : List R → Prop}
/-- a struct of three fields, of the first and the last of which something is known -/
theorem chBuildOPO {t : TypeId} {ts tu i0 i1 i2 : Nat} {x1 : Operand} {v1 : Value} (j j2 : Nat) {g g2 g' : Value → World → Prop} (hst : Stable g') (F : Value → Value → Value) (hr : ∀ u u2 w w', g u w → g2 u2 w → (Instr.build t #[(i0, u), (i1, v1), (i2, u2)]).run P w' = .ok (F u u2) w' ∧ g' (F u u2) w)
    (ho : o.op = .build t #[(i0, .tmp ts), (i1, x1), (i2, .tmp tu)]) (hx1 : rd (l.take n) l0 kk acc o x1 = some v1) (hd : depL o j = true) (hj : look kk acc j = some (.op g)) (ht : (l[j]?).map (·.dst) = some (some ts)) (hd2 : depL o j2 = true) (hj2 : look kk acc j2 = some (.op g2)) (ht2 : (l[j2]?).map (·.dst) = some (some tu)) (hw : wants kk acc o = some true) (hk : gOk l o = true)
    (h : ChainR n P l.toArray W ⟨l0.toArray, ds⟩ (kk + 1) ((.op g') :: acc) rest fin) : ChainR n P l.toArray W ⟨l0.toArray, ds⟩ kk acc (o :: rest) fin :=
  chPureG (by rw [ho]; rfl) hw hk hst (fun a w hh => by
    obtain ⟨v, hv, hg⟩ := hh.op j ts hd hj ht
    obtain ⟨v2, hv2, hg2⟩ := hh.op j2 tu hd2 hj2 ht2
    refine ⟨F v v2, (hr v v2 w w hg hg2).2, fun w' => ?_⟩
    have h1 := (hr v v2 w w' hg hg2).1
    simp [execOp, ho, hv, hv2, hh.rd hx1, h1]) h
end
end Agg
namespace Go.Proofs.Ytgfmpkcgkjpgnaa
open Go.ChangeShapes Go.WideShapes Go.ChangeAt Go.RowKit Agg Pg Dv Fi
attribute [local go_sem] Oper.semAt_some

set_option maxRecDepth 100000 in
theorem cloneY_any (l : List UInt8) (v : Value) (w : World) (hv : Bytes w v l) (hn : l.length ≤ 1000000) :
    Calls Try.prog 43 #[v] w fun e w' => ∃ u, e = .returned u ∧ w'.ownsRow w.heap.size 5 1 u l.length (bv l) ∧ Below w.heap.size w w' := by
  rcases hv.2 with ⟨rfl, h0⟩ | ⟨x, cap, rfl, hc1, hc2, h5⟩
  · have hl : l = [] := List.eq_nil_of_length_eq_zero h0
    subst hl
    have HV := Lib.hid hv
    clear hv h0
    have HB := Lib.hid (Below.refl w.heap.size w)
    go_enter Try.func43, Try.ntmps43
    have he : ∀ w : World, (binOp .eql 39 (.slice none 0 0) (.slice none 0 0)).run Try.prog w = .ok (.bool true) w := fun _ => rfl
    go_wp2_with fail
    go_ret
    exact ⟨_, rfl, World.ownsRow_nil _ _ _ _, HB.out⟩
  · have hc3 : cap ≤ 9223372036854775807 := by unfold maxLen at hc2; omega
    have hs := Lib.hid (SlR.keep hv ((Below.refl _ w).alloc (Nat.le_refl _) (.cells #[] 5)))
    have hown := Lib.hid (World.ownsRow_lit (e := 5) (size := 1) (base := w.heap.size) w #[] 0 (Nat.le_refl _) (by decide) rfl)
    clear hv h5 hc1 hc2
    have HB := Lib.hid (Below.refl w.heap.size w)
    go_enter Try.func43, Try.ntmps43
    have he : ∀ w : World, (binOp .eql 39 (.slice (some x) l.length cap) (.slice none 0 0)).run Try.prog w = .ok (.bool false) w := fun _ => rfl
    go_wp2_with (refine Agg.append ti25 _ _ rfl rfl w.heap.size (v := .slice (some ⟨w.heap.size, 0, none⟩) 0 0) rfl hown.out rfl hs.out (bv_one l) (by unfold maxLen; omega) (by omega) (by simp) ?_; intro v' w' ho hg hnil; simp only [Act.put, List.setIfInBounds_toArray, List.set_cons_succ, List.set_cons_zero])
    go_ret
    refine ⟨v', rfl, ?_, ?_⟩
    · simpa using ho
    · exact ((Below.refl _ w).alloc (Nat.le_refl _) _).trans ((grown_below hg (B := w.heap.size) (by simp) (by simp [Value.ownBlock])))
/-- numbers, bytes of one's own -/
def OwnI (base : Nat) (l : List Int) (v : Value) (w : World) : Prop := w.ownsRow base 3 1 v l.length (iC l)
def OwnY (base : Nat) (l : List UInt8) (v : Value) (w : World) : Prop := w.ownsRow base 5 1 v l.length (bv l)
theorem OwnI.stable (base : Nat) (l : List Int) : Stable (OwnI base l) := fun _ _ _ h hb => own_keep h hb
theorem OwnY.stable (base : Nat) (l : List UInt8) : Stable (OwnY base l) := fun _ _ _ h hb => own_keep h hb
/-- a file in memory of its own -/
def FileO (base : Nat) (A : List Int) (kind : Int) (B : List UInt8) (v : Value) (w : World) : Prop := ∃ ua ub, v = .agg #[ua, .int .i64 kind, ub] ∧ OwnI base A ua w ∧ OwnY base B ub w
theorem FileO.stable (base : Nat) (A : List Int) (kind : Int) (B : List UInt8) : Stable (FileO base A kind B) := fun _ _ _ ⟨ua, ub, h1, h2, h3⟩ hb => ⟨ua, ub, h1, own_keep h2 hb, own_keep h3 hb⟩
theorem fo_FFile_0 : Agg.fieldOff Try.prog 41 0 = some 0 := by kernel_rfl
theorem fo_FFile_1 : Agg.fieldOff Try.prog 41 1 = some 1 := by kernel_rfl
theorem fo_FFile_2 : Agg.fieldOff Try.prog 41 2 = some 2 := by kernel_rfl
theorem build_file (xa xb : Option Addr) (na ca nb cb : Nat) (kind : Int) (w : World) : (Instr.build 41 #[(0, .slice xa na ca), (1, .int .i64 kind), (2, .slice xb nb cb)]).run Try.prog w = .ok (.agg #[.slice xa na ca, .int .i64 kind, .slice xb nb cb]) w := by
  cases xa <;> cases xb <;> simp [go_sem]
theorem bytes_head {w : World} {x : Option Addr} {cap : Nat} {l : List UInt8} (h : Bytes w (.slice x l.length cap) l) (k : Nat) (hk : k ≤ l.length) : Bytes w (.slice x k cap) (l.take k) := by
  have h2 := slR_head (sz := 1) h k hk
  show SlR _ _ 1 _ _
  rw [show (l.take k).length = k by rw [List.length_take]; omega]
  rw [Nat.mul_one] at h2
  have e : bv (l.take k) = (bv l).take k := by unfold bv; rw [List.map_take]
  rw [e]; exact h2
theorem ints_head {w : World} {x : Option Addr} {cap : Nat} {l : List Int} (h : Ints w (.slice x l.length cap) l) (k : Nat) (hk : k ≤ l.length) : Ints w (.slice x k cap) (l.take k) := by
  have h2 := slR_head (sz := 1) h k hk
  show SlR _ _ 1 _ _
  rw [show (l.take k).length = k by rw [List.length_take]; omega]
  rw [Nat.mul_one] at h2
  have e : iC (l.take k) = (iC l).take k := by unfold iC; rw [List.map_take]
  rw [e]; exact h2
set_option maxHeartbeats 4000000 in
set_option maxRecDepth 100000 in
theorem fown_any (A : List Int) (kind : Int) (B : List UInt8) (va vb : Value) (w : World) (hA : Ints w va A) (hB : Bytes w vb B) :
    Calls Try.prog 21 #[.agg #[va, .int .i64 kind, vb]] w fun e w' => ∃ u, e = .returned u ∧ FileO w.heap.size (A.take 20) kind (B.take 2000) u w' ∧ Below w.heap.size w w' := by
  obtain ⟨ax, ac, rfl, ha1, ha2⟩ := SlR.shape hA
  obtain ⟨bx, bc, rfl, hb1, hb2⟩ := SlR.shape hB
  obtain ⟨na, hna⟩ : ∃ m, m = min 20 A.length := ⟨_, rfl⟩
  obtain ⟨nb, hnb⟩ : ∃ m, m = min 2000 B.length := ⟨_, rfl⟩
  have ea : A.take 20 = A.take na := by rw [hna, ← List.take_eq_take_min]
  have eb : B.take 2000 = B.take nb := by rw [hnb, ← List.take_eq_take_min]
  rw [ea, eb]
  have hna1 : na ≤ A.length := by omega
  have hnb1 : nb ≤ B.length := by omega
  have hma : min (A.length : Int) 20 = (na : Int) := by omega
  have hmb : min (B.length : Int) 2000 = (nb : Int) := by omega
  have HMA := Lib.hid hma
  have HMB := Lib.hid hmb
  have HA := Lib.hid (ints_head hA na hna1)
  have HY := Lib.hid (bytes_head hB nb hnb1)
  have la : (A.take na).length ≤ 1000000 := by rw [List.length_take]; omega
  have lb : (B.take nb).length ≤ 1000000 := by rw [List.length_take]; omega
  have HLA := Lib.hid la
  have HLB := Lib.hid lb
  have hca : na ≤ ac := by omega
  have hcb : nb ≤ bc := by omega
  clear hA hB ea eb hma hmb hna hnb la lb
  generalize A.take na = A2 at *
  generalize B.take nb = B2 at *
  have HB := Lib.hid (Below.refl w.heap.size w)
  go_enter Try.func21, Try.ntmps21
  go_upto_region 1 with (fail)
  refine Agg.wp_at fun w1 hw1 => ?_
  have hb : Below w.heap.size w w1 := by rw [hw1.out]; repeat (first | exact Below.refl _ _ | refine Agg.bel_drew ?_ | refine Agg.bel_alloc ?_ _)
  replace HB := Lib.hid (HB.out.trans (hb.mono HB.out.size))
  replace HA := Lib.hid (HA.out.keep hb)
  replace HY := Lib.hid (HY.out.keep hb)
  clear hb
  have H1 : Hid (Blk w1 w.heap.size 41 [.slice ax A.length ac, .int .i64 kind, .slice bx B.length bc]) := by show Blk _ _ _ _; rw [hw1.out]; exact (Blk.new w 41 #[.slice ax A.length ac, .int .i64 kind, .slice bx B.length bc]).al _
  have H2 : Hid (Blk w1 (w.heap.size + 1) 41 [.slice none 0 0, .int .i64 0, .slice none 0 0]) := by show Blk _ _ _ _; rw [hw1.out]; exact Blk.newAt (w.alloc _) 41 #[.slice none 0 0, .int .i64 0, .slice none 0 0] _ (by simp)
  clear hw1
  refine Agg.chainR 19 (by kernel_rfl) (by kernel_rfl) ?_
  simp only [List.take_succ_cons, List.take_zero, List.drop_succ_cons, List.drop_zero]
  refine Agg.chFA fo_FFile_0 rfl rfl rfl rfl ?_
  refine Agg.chLoadB H1.out (by decide +kernel) rfl rfl (by rfl) rfl rfl ?_
  refine Agg.chFA fo_FFile_0 rfl rfl rfl rfl ?_
  refine Agg.chLoadB H1.out (by decide +kernel) rfl rfl (by rfl) rfl rfl ?_
  refine Agg.chLen Try.underlying22 rfl rfl rfl rfl ?_
  refine Agg.chMin2 (na : Int) HMA.out rfl rfl rfl rfl rfl ?_
  refine Agg.chSlice none (some (.int .i64 (na : Int))) none rfl rfl rfl rfl rfl rfl rfl rfl (fun W => run_slice_upto tiInt ax A.length ac na hca W) ?_
  refine Agg.chCallG Try.func10 rfl (by kernel_rfl) (OwnI w1.heap.size A2) (OwnI.stable _ _) rfl rfl rfl rfl (fun W hb => Calls.mono (cloneI_any A2 _ W (SlR.keep HA.out hb) HLA.out) (by rintro e w2 ⟨v, rfl, h, h2⟩; exact ⟨_, rfl, own_base h hb.size, h2⟩)) ?_
  refine Agg.chFA fo_FFile_1 rfl rfl rfl rfl ?_
  refine Agg.chLoadB H1.out (by decide +kernel) rfl rfl (by rfl) rfl rfl ?_
  refine Agg.chFA fo_FFile_2 rfl rfl rfl rfl ?_
  refine Agg.chLoadB H1.out (by decide +kernel) rfl rfl (by rfl) rfl rfl ?_
  refine Agg.chFA fo_FFile_2 rfl rfl rfl rfl ?_
  refine Agg.chLoadB H1.out (by decide +kernel) rfl rfl (by rfl) rfl rfl ?_
  refine Agg.chLen Try.underlying39 rfl rfl rfl rfl ?_
  refine Agg.chMin2 (nb : Int) HMB.out rfl rfl rfl rfl rfl ?_
  refine Agg.chSlice none (some (.int .i64 (nb : Int))) none rfl rfl rfl rfl rfl rfl rfl rfl (fun W => run_slice_upto ti25 bx B.length bc nb hcb W) ?_
  refine Agg.chCallG Try.func43 rfl (by kernel_rfl) (OwnY w1.heap.size B2) (OwnY.stable _ _) rfl rfl rfl rfl (fun W hb => Calls.mono (cloneY_any B2 _ W (SlR.keep HY.out hb) HLB.out) (by rintro e w2 ⟨v, rfl, h, h2⟩; exact ⟨_, rfl, own_base h hb.size, h2⟩)) ?_
  refine Agg.chBuildOPO 7 17 (FileO.stable w1.heap.size A2 kind B2) (fun u u2 => .agg #[u, .int .i64 kind, u2]) (fun u u2 w w' h1 h2 => ⟨by obtain ⟨x, c, rfl, _, _⟩ := (ownSl h1).shape; obtain ⟨x2, c2, rfl, _, _⟩ := (ownSl h2).shape; exact build_file _ _ _ _ _ _ _ w', ⟨u, u2, rfl, h1, h2⟩⟩) rfl rfl rfl rfl rfl rfl rfl rfl rfl rfl ?_
  refine Agg.chEnd ?_
  intro vs w2 hb hf
  simp only [List.reverse, List.reverseAux, Agg.Facts] at hf
  obtain ⟨_, _, ⟨ua, ub, hv, hua, hub⟩, _⟩ := hf
  simp only [List.reverse, List.reverseAux, Agg.fill, List.set_cons_succ, List.set_cons_zero, hv]
  obtain ⟨xa, ca, rfl, _, _⟩ := (ownSl hua).shape
  obtain ⟨xb, cb, rfl, _, _⟩ := (ownSl hub).shape
  have h2 := H2.out.keep hb
  have hbA := HB.out.trans (hb.mono HB.out.size)
  have hsz := HB.out.size
  have l2 := H2.out.lt
  refine Agg.tStore 3 (cs := [.slice xa A2.length ca, .int .i64 kind, .slice xb B2.length cb]) h2 rfl rfl rfl rfl rfl (by decide +kernel) rfl rfl (by simp [Value.oneCell']) (fun w16 hb16 hg16 => ?_)
  refine Agg.wpNil ?_
  have hua2 := own_base (hua.kept hg16 (own_off hua l2)) hsz
  have hub2 := own_base (hub.kept hg16 (own_off hub l2)) hsz
  have hbC := hbA.trans (grown_below hg16 hbA.size (fun j hj => by cases hj; omega))
  clear hv hua hub h2 hbA hg16 hb
  go_wp2_with fail
  exact bodyPost_ret (results_row1 (m := 3) rfl hb16 rfl (by decide +kernel) rfl) rfl ⟨_, rfl, ⟨_, _, rfl, hua2, hub2⟩, hbC⟩
end Go.Proofs.Ytgfmpkcgkjpgnaa
end
section
/-
  FILES: stamps and bytes are put onto a block, wherever it lies.
-/
namespace Agg
open Go Go.RowKit
theorem run_index_one {P : Program} {t e : TypeId} {m : Nat} (A : AI P t e m 1) (he : oneT P e = true) (cs : List Value) (v : Value) (n : Nat) (hn : n < m) (hv : cs[n]? = some v) (w : World) : (Instr.index t (.agg cs.toArray) (.int .i64 (n : Int))).run P w = .ok v w := by
  have hs := A.hs
  cases hq : P.info? e with
  | none => simp [hq] at hs
  | some i =>
    have hi : i.size = 1 := by simpa [hq] using hs
    cases hu : P.underlying e with
    | none => simp [oneT, hu] at he
    | some d =>
      have hone : oneOf d = true := by simpa [oneT, hu] using he
      have hagg : (isAgg e).run P w = .ok false w := by
        unfold isAgg
        rw [Sem.run_bind, run_underlying hu w]
        cases d <;> simp_all [oneOf]
      simp [Instr.index, asIntOf, run_underlying A.ht, hn, Go.sizeOf, typeInfo, hq, hi, part, hagg, hv]
theorem gIndexOne {P : Program} {w : World} {o : Oper} {Q : Exit → Act → World → Prop} {ops : Array Oper} {rest : List Oper} {a : Act} {t e : TypeId} {m : Nat} (A : AI P t e m 1) (he : oneT P e = true) {x y : Operand} {cs : List Value} (v : Value) {n : Nat} (hn : n < m) (hv : cs[n]? = some v) (hg : o.guard = none) (ho : o.op = .index t x y) (hx : a.eval x = .agg cs.toArray) (hy : a.eval y = .int .i64 (n : Int))
    (h : wpList P ops Q rest (a.put o.dst v) w) : wpList P ops Q (o :: rest) a w := by
  refine run hg _ w ?_ h
  simp only [execOp, ho, hx, hy, Sem.run_bind, run_index_one A he cs v n hn hv, Result.andThen_ok, Sem.run_pure]
end Agg
namespace Fi
open Go Go.RowKit Agg Pg Dv
/-- a page's number, byte and stamps, in memory -/
structure PgD where
  page : Int
  byte : UInt8
  st : List Nat
def pgC (p : PgD) : List Value := .int .i64 p.page :: .int .u8 (p.byte.toNat : Int) :: p.st.map fun n : Nat => Value.int .u64 (n : Int)
def PgD.Ok (p : PgD) : Prop := p.st.length = 4 ∧ ∀ s ∈ p.st, s < 18446744073709551616
theorem pgC_length {p : PgD} (h : p.Ok) : (pgC p).length = 6 := by simp [pgC, h.1]
/-- the first bytes are mixed with another -/
def xorN (x : UInt8) : Nat → List UInt8 → List UInt8
  | 0, l => l
  | i + 1, l => (xorN x i l).set i ((xorN x i l).getD i 0 ^^^ x)
theorem xorN_length (x : UInt8) (l : List UInt8) : ∀ i, (xorN x i l).length = l.length
  | 0 => rfl
  | i + 1 => by rw [xorN, List.length_set, xorN_length x l i]
/-- the first sectors are stamped -/
def putTo (p : PgD) (b : List Sec) : Nat → List Sec
  | 0 => b
  | k + 1 => if p.st.getD k 0 = 0 then putTo p b k else (putTo p b k).set k (p.st.getD k 0, xorN p.byte 32 ((putTo p b k).getD k (0, [])).2)
def putPg (p : PgD) (b : List Sec) : List Sec := putTo p b 4
theorem st_lt {p : PgD} (h : p.Ok) (k : Nat) : p.st.getD k 0 < 18446744073709551616 := by
  by_cases hk : k < p.st.length
  · have e : p.st.getD k 0 = p.st[k] := by rw [List.getD_eq_getElem?_getD, List.getElem?_eq_getElem hk]; rfl
    rw [e]; exact h.2 _ (List.getElem_mem hk)
  · have e : p.st.getD k 0 = 0 := by rw [List.getD_eq_getElem?_getD, List.getElem?_eq_none (by omega)]; rfl
    rw [e]; omega
theorem set_sec {b : List Sec} (h : BOk b) (k : Nat) (n : Nat) (l : List UInt8) (hn : n < 18446744073709551616) (hl : l.length = 32) : BOk (b.set k (n, l)) := by
  refine ⟨by rw [List.length_set]; exact h.1, fun s hs => ?_⟩
  rcases List.mem_or_eq_of_mem_set hs with h2 | h2
  · exact h.2 s h2
  · rw [h2]; exact ⟨hl, hn⟩
theorem getD_32 {b : List Sec} (h : BOk b) (k : Nat) (hk : k < 4) : (b.getD k (0, [])).2.length = 32 := by
  rw [getD_mem k (by rw [h.1]; exact hk)]
  exact (h.2 _ (List.getElem_mem _)).1
theorem putTo_bok {p : PgD} (hp : p.Ok) {b : List Sec} (hb : BOk b) : ∀ k, k ≤ 4 → BOk (putTo p b k) := by
  intro k
  induction k with
  | zero => intro _; exact hb
  | succ k ih =>
    intro hk
    have ih := ih (by omega)
    by_cases h : p.st.getD k 0 = 0
    · have e : putTo p b (k + 1) = putTo p b k := if_pos h
      rw [e]; exact ih
    · have e : putTo p b (k + 1) = (putTo p b k).set k (p.st.getD k 0, xorN p.byte 32 ((putTo p b k).getD k (0, [])).2) := if_neg h
      rw [e]
      exact set_sec ih k _ _ (st_lt hp k) ((xorN_length _ _ _).trans (getD_32 ih k (by omega)))
theorem putPg_bok {p : PgD} (hp : p.Ok) {b : List Sec} (hb : BOk b) : BOk (putPg p b) := putTo_bok hp hb 4 (by omega)
end Fi
namespace Go.Proofs.Ytgfmpkcgkjpgnaa
open Go.ChangeShapes Go.WideShapes Go.ChangeAt Go.RowKit Agg Pg Dv Fi
attribute [local go_sem] Oper.semAt_some

theorem fo_FPg_0 : Agg.fieldOff Try.prog 83 0 = some 0 := by kernel_rfl
theorem fo_FPg_1 : Agg.fieldOff Try.prog 83 1 = some 1 := by kernel_rfl
theorem fo_FPg_2 : Agg.fieldOff Try.prog 83 2 = some 2 := by kernel_rfl
theorem aiSt : AI Try.prog 81 42 4 1 := ⟨by kernel_rfl, by kernel_rfl⟩
/-- half a sector's round -/
def midTo (p : PgD) (b : List Sec) (k i : Nat) : List Sec := (putTo p b k).set k (p.st.getD k 0, xorN p.byte i ((putTo p b k).getD k (0, [])).2)
theorem midTo_bok {p : PgD} (hp : p.Ok) {b : List Sec} (hb : BOk b) (k i : Nat) (hk : k < 4) : BOk (midTo p b k i) := by
  have ih := putTo_bok hp hb k (by omega)
  exact set_sec ih k _ _ (st_lt hp k) ((xorN_length _ _ _).trans (getD_32 ih k hk))
theorem mid_gen (Q : List Sec) (k : Nat) (n : Nat) (L : List UInt8) (i : Nat) (x : UInt8) (M : List Sec) (hM : M = Q.set k (n, L)) (h1 : k < M.length) (h2 : i < (M[k]).2.length) :
    M.set k ((M[k]).1, (M[k]).2.set i ((M[k]).2[i] ^^^ x)) = Q.set k (n, L.set i (L.getD i 0 ^^^ x)) := by
  subst hM
  have e : (Q.set k (n, L))[k] = (n, L) := List.getElem_set_self ..
  have key : ∀ (s : Sec) (_ : s = (n, L)) (h : i < s.2.length), (Q.set k (n, L)).set k (s.1, s.2.set i (s.2[i] ^^^ x)) = Q.set k (n, L.set i (L.getD i 0 ^^^ x)) := by
    intro s hs h
    subst hs
    have e3 : L.getD i 0 = L[i]'h := by rw [List.getD_eq_getElem?_getD, List.getElem?_eq_getElem h]; rfl
    rw [List.set_set, e3]
  exact key _ e h2
theorem midTo_succ (p : PgD) (b : List Sec) (k i : Nat) (h1 : k < (midTo p b k i).length) (h2 : i < ((midTo p b k i)[k]).2.length) : (midTo p b k i).set k (((midTo p b k i)[k]).1, ((midTo p b k i)[k]).2.set i (((midTo p b k i)[k]).2[i] ^^^ p.byte)) = midTo p b k (i + 1) :=
  mid_gen (putTo p b k) k (p.st.getD k 0) (xorN p.byte i ((putTo p b k).getD k (0, [])).2) i p.byte (midTo p b k i) rfl h1 h2
theorem xor_u8 (a b : UInt8) : ((a ^^^ b).toNat : Int) = ((a.toNat ^^^ b.toNat : Nat) : Int) := by rw [UInt8.toNat_xor]
set_option maxHeartbeats 8000000 in
set_option maxRecDepth 100000 in
theorem pput_any (p : PgD) (hp : p.Ok) (b : List Sec) (hb : BOk b) (g : Nat) (T : TypeId) (pre post : List Value) (w : World) (hg : Blk w g T (pre ++ (blkC b ++ post))) :
    Calls Try.prog 42 #[.agg (pgC p).toArray, .pointer (some ⟨g, pre.length, none⟩)] w fun e w' => e = .returned (.tuple #[]) ∧ Blk w' g T (pre ++ (blkC (putPg p b) ++ post)) ∧ w.grownBy w' (some g) := by
  have HG := Lib.hid hg
  have HP := Lib.hid hp
  have HBO := Lib.hid hb
  have hgl := hg.lt
  have h6 := pgC_length hp
  clear hg hp hb
  have HB := Lib.hid (Below.refl w.heap.size w)
  go_enter Try.func42, Try.ntmps42
  obtain ⟨pn, px, pst⟩ := p
  have hst : pst.length = 4 := HP.out.1
  have hst2 : ∀ k, pst.getD k 0 < 18446744073709551616 := fun k => st_lt HP.out k
  obtain ⟨gp, hgp⟩ : ∃ q, w.heap.size = q := ⟨_, rfl⟩
  have HBP := Lib.hid (Blk.newAt w 83 (pgC ⟨pn, px, pst⟩).toArray gp hgp.symm)
  have HGR := Lib.hid (below_grown ((Below.refl _ w).alloc (Nat.le_refl _) (.cells (pgC ⟨pn, px, pst⟩).toArray 83)) (some g))
  have HGA := Lib.hid (HG.out.al (.cells (pgC ⟨pn, px, pst⟩).toArray 83))
  go_upto_region 1 with (fail)
  refine Agg.wp_at fun wB hwB => ?_
  rw [← hwB.out] at HBP HGR HGA
  clear hwB HB HG
  have hgg : g < gp := by omega
  clear hgp hgl
  have hcs : ∀ i v, (pst.map fun n : Nat => Value.int .u64 (n : Int))[i]? = some v → wB.cell? ⟨gp, 0 + 2 + i, none⟩ = some v := by
    intro i v hi
    rw [HBP.out.cell, show 0 + 2 + i = (i + 1) + 1 by omega]
    exact hi
  have hl4 : (pst.map fun n : Nat => Value.int .u64 (n : Int)).length = 4 := by rw [List.length_map, hst]
  go_wp2_with (refine Agg.gLoad 4 (pst.map fun n : Nat => Value.int .u64 (n : Int)) rfl rfl rfl (by decide +kernel) hl4 hcs ?_; simp only [Act.put, List.setIfInBounds_toArray, List.set_cons_succ, List.set_cons_zero])
  clear hcs hl4
  obtain ⟨sv, hsv⟩ : ∃ sv, sv = (pst.map fun n : Nat => Value.int .u64 (n : Int)).toArray := ⟨_, rfl⟩
  rw [← hsv]
  have HSV := Lib.hid hsv
  clear hsv
  have hbp0 := HBP.out
  have hga0 := HGA.out
  have hgr0 := HGR.out
  clear HBP HGA HGR
  go_loopw [9] (fun ix wr => ∃ k : Nat, k ≤ 4 ∧ ix = .int .i64 k ∧ Blk wr gp 83 (pgC ⟨pn, px, pst⟩) ∧ Blk wr g T (pre ++ (blkC (putTo ⟨pn, px, pst⟩ b k) ++ post)) ∧ w.grownBy wr (some g)) (fun ix _ => 4 - (intOf ix).toNat)
  case atStart => exact ⟨0, by omega, rfl, hbp0, hga0, hgr0⟩
  case round =>
    obtain ⟨k, hk, rfl, h1, h2, h3⟩ := hrel
    have HBP := Lib.hid h1
    have HG := Lib.hid h2
    have HGR := Lib.hid h3
    clear h1 h2 h3 hbp0 hga0 hgr0
    obtain ⟨wA, hwA⟩ : ∃ x, x = wr := ⟨_, rfl⟩
    subst hwA
    by_cases hlt : k < 4
    · have hks : k < pst.length := by omega
      have hel : (pst.map fun n : Nat => Value.int .u64 (n : Int))[k]? = some (.int .u64 ((pst.getD k 0 : Nat) : Int)) := by
        rw [List.getElem?_map, List.getElem?_eq_getElem hks, List.getD_eq_getElem?_getD, List.getElem?_eq_getElem hks]; rfl
      have hs2 := hst2 k
      have HPT : Hid (putTo ⟨pn, px, pst⟩ b (k + 1) = if pst.getD k 0 = 0 then putTo ⟨pn, px, pst⟩ b k else (putTo ⟨pn, px, pst⟩ b k).set k (pst.getD k 0, xorN px 32 ((putTo ⟨pn, px, pst⟩ b k).getD k (0, [])).2)) := Lib.hid rfl
      have HMB : Hid (∀ i, BOk (midTo ⟨pn, px, pst⟩ b k i)) := Lib.hid fun i => midTo_bok HP.out HBO.out k i hlt
      have HQB := Lib.hid (putTo_bok HP.out HBO.out k (by omega))
      have HMS := Lib.hid (midTo_succ ⟨pn, px, pst⟩ b k)
      have HM0 : Hid (∀ i, midTo ⟨pn, px, pst⟩ b k i = (putTo ⟨pn, px, pst⟩ b k).set k (pst.getD k 0, xorN px i ((putTo ⟨pn, px, pst⟩ b k).getD k (0, [])).2)) := Lib.hid fun i => rfl
      obtain ⟨s, hs⟩ : ∃ s, pst.getD k 0 = s := ⟨_, rfl⟩
      rw [hs] at hel hs2 HPT HM0
      clear hs
      have hidx : ∀ (Q : Exit → Act → World → Prop), True := fun _ => trivial
      clear hidx
      by_cases h0 : s = 0
      · have hz : ((s : Int) == 0) = true := by simp [h0]
        have HP0 : Hid (putTo ⟨pn, px, pst⟩ b (k + 1) = putTo ⟨pn, px, pst⟩ b k) := Lib.hid (by rw [HPT.out, if_pos h0])
        clear h0 HPT HMB HMS HM0 HQB
        go_wp2_with (refine Agg.gIndexOne aiSt (by decide +kernel) (.int .u64 (s : Int)) (n := k) hlt hel rfl rfl (by rw [HSV.out]; rfl) rfl ?_; simp only [Act.put, List.setIfInBounds_toArray, List.set_cons_succ, List.set_cons_zero])
        exact ⟨⟨k + 1, by omega, by go_num, HBP.out, by rw [HP0.out]; exact HG.out, HGR.out⟩, by simp [intOf]; omega⟩
      · have hz : ((s : Int) == 0) = false := by simp [h0]
        have HP0 : Hid (putTo ⟨pn, px, pst⟩ b (k + 1) = midTo ⟨pn, px, pst⟩ b k 32) := Lib.hid (by rw [HPT.out, if_neg h0, HM0.out])
        clear h0 HPT
        have hin : k < (putTo ⟨pn, px, pst⟩ b k).length := by rw [HQB.out.1]; exact hlt
        have hst3 := blkC_stamped (putTo ⟨pn, px, pst⟩ b k) HQB.out.len k hin s post
        have hm0 := HM0.out 0
        rw [getD_mem k hin] at hm0
        have hxz : xorN px 0 ((putTo ⟨pn, px, pst⟩ b k)[k]).2 = ((putTo ⟨pn, px, pst⟩ b k)[k]).2 := rfl
        rw [hxz] at hm0
        rw [← hm0] at hst3
        have hspl := spliced_app pre (blkC (putTo ⟨pn, px, pst⟩ b k) ++ post) [.int .u64 (s : Int)] (k * 33)
        rw [hst3] at hspl
        have hf1 : pre.length + k * 33 + 1 ≤ (pre ++ (blkC (putTo ⟨pn, px, pst⟩ b k) ++ post)).length := by rw [List.length_append, List.length_append, bok_cells HQB.out]; omega
        have hg := HG.out
        clear hst3 hm0 hxz hin
        go_upto_region 6 with (first
          | (refine Agg.gIndexOne aiSt (by decide +kernel) (.int .u64 (s : Int)) (n := k) hlt hel rfl rfl (by rw [HSV.out]; rfl) rfl ?_; simp only [Act.put, List.setIfInBounds_toArray, List.set_cons_succ, List.set_cons_zero])
          | (refine Agg.gStoreCell (pre.length + k * 33) (.int .u64 (s : Int)) hg rfl rfl rfl rfl rfl (by kernel_rfl) rfl hf1 rfl (fun w12 hb12 hg12 => ?_); clear hg))
        rw [hspl] at hb12
        have hbp1 := HBP.out.far' hg12 (by omega)
        have hgr1 := grown_trans HGR.out hg12
        clear hspl hf1 hel HQB HM0 HG HBP HGR hg12
        go_wp2_with fail
        go_loopw [21] (fun j wr => ∃ i : Nat, i ≤ 32 ∧ j = .int .i64 i ∧ Blk wr gp 83 (pgC ⟨pn, px, pst⟩) ∧ Blk wr g T (pre ++ (blkC (midTo ⟨pn, px, pst⟩ b k i) ++ post)) ∧ w.grownBy wr (some g)) (fun j _ => 32 - (intOf j).toNat)
        case atStart => exact ⟨0, by omega, rfl, hbp1, hb12, hgr1⟩
        case round =>
          obtain ⟨i, hi, rfl, h1, h2, h3⟩ := hrel
          have HBP := Lib.hid h1
          have HG := Lib.hid h2
          have HGR := Lib.hid h3
          clear h1 h2 h3 hbp1 hb12 hgr1
          obtain ⟨wC, hwC⟩ : ∃ x, x = wr := ⟨_, rfl⟩
          subst hwC
          by_cases hlt2 : i < 32
          · have hmb := HMB.out i
            have hin : k < (midTo ⟨pn, px, pst⟩ b k i).length := by rw [hmb.1]; exact hlt
            have hil : i < ((midTo ⟨pn, px, pst⟩ b k i)[k]).2.length := by rw [(hmb.2 _ (List.getElem_mem hin)).1]; exact hlt2
            have hms := HMS.out i hin hil
            obtain ⟨y, hy⟩ : ∃ y, ((midTo ⟨pn, px, pst⟩ b k i)[k]).2[i] = y := ⟨_, rfl⟩
            have hcy := blkC_byte (midTo ⟨pn, px, pst⟩ b k i) hmb.len k hin post i hil
            rw [hy] at hms hcy
            have hone := blkC_one_byte (midTo ⟨pn, px, pst⟩ b k i) hmb.len k hin i hlt2 (y ^^^ px) post
            rw [hms] at hone
            have hspl := spliced_app pre (blkC (midTo ⟨pn, px, pst⟩ b k i) ++ post) [.int .u8 ((y ^^^ px).toNat : Int)] (k * 33 + 1 + i)
            rw [hone] at hspl
            have hfit : pre.length + (k * 33 + 1 + i) + 1 ≤ (pre ++ (blkC (midTo ⟨pn, px, pst⟩ b k i) ++ post)).length := by rw [List.length_append, List.length_append, bok_cells hmb]; omega
            have HCY : Hid (wC.cell? ⟨g, pre.length + k * 33 + 1 + i, none⟩ = some (.int .u8 (y.toNat : Int))) := Lib.hid (by
              rw [HG.out.cell, show pre.length + k * 33 + 1 + i = pre.length + (k * 33 + (1 + i)) by omega, List.getElem?_append_right (by omega), Nat.add_sub_cancel_left]
              exact hcy)
            have hx : bits .xor .u8 (y.toNat : Int) (px.toNat : Int) = ((y ^^^ px).toNat : Int) := by
              rw [bits_xor .u8 _ _ rfl (y.toNat_lt) (px.toNat_lt), UInt8.toNat_xor]
            have hg := HG.out
            have h05 : (pgC ⟨pn, px, pst⟩)[1]? = some (.int .u8 (px.toNat : Int)) := rfl
            clear hmb hin hil hms hy hcy hone
            have HB := Lib.hid (Below.refl wC.heap.size wC)
            go_upto_region 9 with (fail)
            refine Agg.chainR 15 (by kernel_rfl) (by kernel_rfl) ?_
            simp only [List.take_succ_cons, List.take_zero, List.drop_succ_cons, List.drop_zero]
            refine Agg.chMove rfl rfl rfl rfl ?_
            refine Agg.chMove rfl rfl rfl rfl ?_
            refine Agg.chMove rfl rfl rfl rfl ?_
            refine Agg.chNil rfl rfl rfl rfl ?_
            refine Agg.chIAA aiBl (by omega) (by omega) rfl rfl rfl rfl rfl ?_
            refine Agg.chFA fo_fo_Se_1 rfl rfl rfl rfl ?_
            refine Agg.chIAA ai32 (by omega) (by omega) rfl rfl rfl rfl rfl ?_
            refine Agg.chLoad rfl rfl rfl rfl (by decide +kernel) (by simp only [Int.toNat_natCast, Nat.mul_one]; exact HCY.out) ?_
            refine Agg.chFA fo_FPg_1 rfl rfl rfl rfl ?_
            refine Agg.chLoadB HBP.out (by decide +kernel) rfl rfl h05 rfl rfl ?_
            refine Agg.chBin (v := .int .u8 ((y ^^^ px).toNat : Int)) rfl rfl rfl rfl rfl (fun _ => rfl) (fun w => run_xor_u8 5 _ _ _ hx w) ?_
            refine Agg.chNil rfl rfl rfl rfl ?_
            refine Agg.chIAA aiBl (by omega) (by omega) rfl rfl rfl rfl rfl ?_
            refine Agg.chFA fo_fo_Se_1 rfl rfl rfl rfl ?_
            refine Agg.chIAA ai32 (by omega) (by omega) rfl rfl rfl rfl rfl ?_
            refine Agg.chEnd ?_
            intro vs w21 hb hf
            simp only [List.reverse, List.reverseAux, Agg.Facts] at hf
            obtain _ := hf
            simp only [List.reverse, List.reverseAux, Agg.fill, List.set_cons_succ, List.set_cons_zero]
            simp only [Int.toNat_natCast, Nat.mul_one]
            refine Agg.gStoreCell (pre.length + k * 33 + 1 + i) (.int .u8 ((y ^^^ px).toNat : Int)) (hg.keep hb) rfl rfl rfl rfl rfl (by kernel_rfl) rfl (by omega) rfl (fun w13 hb13 hg13 => ?_)
            rw [show pre.length + k * 33 + 1 + i = pre.length + (k * 33 + 1 + i) by omega, hspl] at hb13
            have hbp2 := (HBP.out.keep hb).far' hg13 (by omega)
            have hgr2 := grown_trans HGR.out (grown_trans (below_grown hb (some g)) hg13)
            refine Agg.wpNil ?_
            clear hspl hfit hg hb hg13 HCY hx h05 HBP HG HGR
            go_wp2_with fail
            exact ⟨⟨i + 1, by omega, by go_num, hbp2, hb13, hgr2⟩, by simp [intOf]; omega⟩
          · obtain rfl : i = 32 := by omega
            clear HMB HMS
            go_wp2_with fail
            exact ⟨⟨k + 1, by omega, by go_num, HBP.out, by rw [HP0.out]; exact HG.out, HGR.out⟩, by simp [intOf]; omega⟩
    · obtain rfl : k = 4 := by omega
      go_wp2_with fail
      go_end0
      exact ⟨rfl, HG.out, HGR.out⟩
end Go.Proofs.Ytgfmpkcgkjpgnaa
end
