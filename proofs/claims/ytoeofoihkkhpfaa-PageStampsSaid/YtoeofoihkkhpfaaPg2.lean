/-
  PAGES: the functions that look at a page, and bytes.Equal, bytes.Clone.
-/
import Derived.Test.YtoeofoihkkhpfaaPg1
import Derived.Test.YtoeofoihkkhpfaaPRef2
import Derived.Laws.BytesString
import Derived.ChangeKeysEq
namespace Go.Proofs.Ytoeofoihkkhpfaa
open Go.ChangeShapes Go.WideShapes Go.ChangeAt Go.RowKit Agg Pg

theorem fo_Page_0 : Agg.fieldOff Try.prog 24 0 = some 0 := by kernel_rfl
theorem fo_Page_1 : Agg.fieldOff Try.prog 24 1 = some 1 := by kernel_rfl
theorem fo_Sec_0 : Agg.fieldOff Try.prog 34 0 = some 0 := by kernel_rfl
theorem fo_Sec_1 : Agg.fieldOff Try.prog 34 1 = some 1 := by kernel_rfl
theorem stampIs_any (n : Nat) (w : World) (r : Bool) (hr : decide (stampP n) = r) :
    Calls Try.prog 28 #[.int .u64 (n : Int)] w fun e w' => e = .returned (.bool r) ∧ Below w.heap.size w w' := by
  by_cases h1 : 1 ≤ n
  · by_cases h2 : n ≤ 4611686018427387904
    · have HR : Hid (r = true) := by show _ = _; rw [← hr]; exact decide_eq_true ⟨h1, h2⟩
      have q1 : (n : Int) ≥ 1 := by omega
      have q2 : (n : Int) ≤ 4611686018427387904 := by omega
      clear hr h1 h2
      have HB := Lib.hid (Below.refl w.heap.size w)
      go_enter Try.func28, Try.ntmps28
      go_wp2_with fail
      go_ret
      exact ⟨by rw [HR.out]; rfl, HB.out⟩
    · have HR : Hid (r = false) := by show _ = _; rw [← hr]; exact decide_eq_false (fun h => h2 h.2)
      have q1 : (n : Int) ≥ 1 := by omega
      have q2 : ¬ (n : Int) ≤ 4611686018427387904 := by omega
      clear hr h1 h2
      have HB := Lib.hid (Below.refl w.heap.size w)
      go_enter Try.func28, Try.ntmps28
      go_wp2_with fail
      go_ret
      exact ⟨by rw [HR.out]; rfl, HB.out⟩
  · have HR : Hid (r = false) := by show _ = _; rw [← hr]; exact decide_eq_false (fun h => h1 h.1)
    have q1 : ¬ (n : Int) ≥ 1 := by omega
    clear hr h1
    have HB := Lib.hid (Below.refl w.heap.size w)
    go_enter Try.func28, Try.ntmps28
    go_wp2_with fail
    go_ret
    exact ⟨by rw [HR.out]; rfl, HB.out⟩
/-- a page's cells -/
theorem check_any (kind : Int) (d : List UInt8) (dv : Value) (w : World) (hd : Bytes w dv d) (er : Int) (he : (if pageP kind d then 0 else 2) = er) :
    Calls Try.prog 13 #[.agg #[.int .i64 kind, dv]] w fun e w' => e = .returned (.int .i64 er) ∧ Below w.heap.size w w' := by
  obtain ⟨x, cap, rfl, hc, hm⟩ := SlR.shape hd
  have hc3 : cap ≤ 9223372036854775807 := by unfold maxLen at hm; omega
  clear hd hm
  by_cases h1 : kind < 1
  · have HR : Hid (er = 2) := by show _ = _; rw [← he]; exact if_neg (fun h => by have := h.1; omega)
    clear he
    have HB := Lib.hid (Below.refl w.heap.size w)
    go_enter Try.func13, Try.ntmps13
    go_wp2_with fail
    go_ret
    exact ⟨by rw [HR.out]; rfl, bel_alloc HB.out _⟩
  · by_cases h2 : kind > 4
    · have HR : Hid (er = 2) := by show _ = _; rw [← he]; exact if_neg (fun h => by have := h.2.1; omega)
      clear he
      have HB := Lib.hid (Below.refl w.heap.size w)
      go_enter Try.func13, Try.ntmps13
      go_wp2_with fail
      go_ret
      exact ⟨by rw [HR.out]; rfl, bel_alloc HB.out _⟩
    · by_cases h3 : (d.length : Int) > 120
      · have HR : Hid (er = 2) := by show _ = _; rw [← he]; exact if_neg (fun h => by have := h.2.2; omega)
        clear he
        have HB := Lib.hid (Below.refl w.heap.size w)
        go_enter Try.func13, Try.ntmps13
        go_wp2_with fail
        go_ret
        exact ⟨by rw [HR.out]; rfl, bel_alloc HB.out _⟩
      · have HR : Hid (er = 0) := by show _ = _; rw [← he]; exact if_pos ⟨by omega, by omega, by omega⟩
        clear he
        have HB := Lib.hid (Below.refl w.heap.size w)
        go_enter Try.func13, Try.ntmps13
        go_wp2_with fail
        go_ret
        exact ⟨by rw [HR.out]; rfl, bel_alloc HB.out _⟩
/-- bytes, as text -/
def strB (l : List UInt8) : ByteArray := ⟨l.toArray⟩
theorem strB_inj (l m : List UInt8) : ((strB l).toList == (strB m).toList) = decide (l = m) := by
  simp only [ByteArray.toList_eq, strB]
  rw [Bool.eq_iff_iff]
  simp
theorem push_all : ∀ (l : List UInt8) (a : ByteArray), (l.map fun c => ((c.toNat : Nat) : Int)).foldl (fun r n => r.push (UInt8.ofNat n.toNat)) a = ⟨a.data ++ l.toArray⟩ := by
  intro l
  induction l with
  | nil => intro a; simp
  | cons c r ih =>
    intro a
    rw [List.map_cons, List.foldl_cons, ih]
    simp [ByteArray.push]
theorem conv_str {l : List UInt8} {v : Value} {w : World} (h : Bytes w v l) : (convert 22 9 v).run Try.prog w = .ok (.string (strB l)) w := by
  rcases SlR.shape h with ⟨x, cap, rfl, _, _⟩
  rw [run_convert_bytes_string w 22 9 5 x l.length cap Try.underlying22 Try.underlying5 Try.underlying9]
  rcases h.2 with ⟨h1, h2⟩ | ⟨y, cap', h1, _, _, h5⟩
  · simp only [Value.slice.injEq] at h1
    obtain ⟨rfl, _, rfl⟩ := h1
    obtain rfl : l = [] := List.eq_nil_of_length_eq_zero h2
    rfl
  · simp only [Value.slice.injEq, true_and] at h1
    obtain ⟨rfl, rfl⟩ := h1
    have hl := run_loadCells_list (P := Try.prog) w y (bv l) h5
    rw [bv_length] at hl
    have := run_bytesToString (P := Try.prog) w y l.length cap (l.map fun c => ((c.toNat : Nat) : Int)) (by rw [hl]; simp [bv])
    rw [this, push_all]
    simp [strB, ByteArray.empty, ByteArray.emptyWithCapacity]
    rfl
theorem bEqual_any (l m : List UInt8) (u v : Value) (w : World) (hu : Bytes w u l) (hv : Bytes w v m) (r : Bool) (hr : decide (l = m) = r) :
    Calls Try.prog 27 #[u, v] w fun e w' => e = .returned (.bool r) ∧ Below w.heap.size w w' := by
  obtain ⟨x, cap, rfl, hc, hm⟩ := SlR.shape hu
  obtain ⟨y, dap, rfl, hd, hn⟩ := SlR.shape hv
  have hc3 : cap ≤ 9223372036854775807 := by unfold maxLen at hm; omega
  have hd3 : dap ≤ 9223372036854775807 := by unfold maxLen at hn; omega
  have h1 := conv_str hu
  have h2 := conv_str hv
  have HE := Lib.hid ((strB_inj l m).trans hr)
  clear hu hv hm hn hr
  generalize strB l = s1 at *
  generalize strB m = s2 at *
  have HB := Lib.hid (Below.refl w.heap.size w)
  go_enter Try.func27, Try.ntmps27
  go_wp2_with fail
  go_ret
  exact ⟨by rw [← HE.out]; rfl, HB.out⟩
theorem bytes_take {w : World} {x : Option Addr} {cap : Nat} {l : List UInt8} (h : Bytes w (.slice x l.length cap) l) (k : Nat) (hk : k ≤ l.length) : Bytes w (.slice x k cap) (l.take k) := by
  have := SlR.take h k hk
  rw [Nat.mul_one, ← bv_take] at this
  show SlR _ _ _ _ _
  rw [show (l.take k).length = k by rw [List.length_take]; omega]
  exact this
set_option maxRecDepth 100000 in
theorem bClone_any (l : List UInt8) (v : Value) (w : World) (hv : Bytes w v l) (hn : l.length ≤ 1000000) :
    Calls Try.prog 35 #[v] w fun e w' => ∃ u, e = .returned u ∧ w'.ownsRow w.heap.size 5 1 u l.length (bv l) ∧ Below w.heap.size w w' := by
  rcases hv.2 with ⟨rfl, h0⟩ | ⟨x, cap, rfl, hc1, hc2, h5⟩
  · have hl : l = [] := List.eq_nil_of_length_eq_zero h0
    subst hl
    have he : ∀ w : World, (binOp .eql 22 (.slice none 0 0) (.slice none 0 0)).run Try.prog w = .ok (.bool true) w := fun _ => rfl
    clear hv h0
    have HB := Lib.hid (Below.refl w.heap.size w)
    go_enter Try.func35, Try.ntmps35
    go_wp2_with fail
    go_ret
    exact ⟨_, rfl, World.ownsRow_nil _ _ _ _, HB.out⟩
  · have hc3 : cap ≤ 9223372036854775807 := by unfold maxLen at hc2; omega
    have hs := Lib.hid (SlR.keep hv ((Below.refl _ w).alloc (Nat.le_refl _) (.cells #[] 5)))
    have hown := Lib.hid (World.ownsRow_lit (e := 5) (size := 1) (base := w.heap.size) w #[] 0 (Nat.le_refl _) (by decide) rfl)
    clear hv h5 hc1 hc2
    have he : ∀ w : World, (binOp .eql 22 (.slice (some x) l.length cap) (.slice none 0 0)).run Try.prog w = .ok (.bool false) w := fun _ => rfl
    have HB := Lib.hid (Below.refl w.heap.size w)
    go_enter Try.func35, Try.ntmps35
    go_wp2_with (refine Agg.append ti25 _ _ rfl rfl w.heap.size (v := .slice (some ⟨w.heap.size, 0, none⟩) 0 0) rfl hown.out rfl hs.out (bv_one l) (by unfold maxLen; omega) (by omega) (by simp) ?_; intro v' w' ho hg hnil; simp only [Act.put, List.setIfInBounds_toArray, List.set_cons_succ, List.set_cons_zero])
    go_ret
    refine ⟨v', rfl, ?_, ?_⟩
    · simpa using ho
    · exact ((Below.refl _ w).alloc (Nat.le_refl _) _).trans ((grown_below hg (B := w.heap.size) (by simp) (by simp [Value.ownBlock])))
set_option maxHeartbeats 1000000 in
theorem same_any (k1 k2 : Int) (l m : List UInt8) (u v : Value) (w : World) (hu : Bytes w u l) (hv : Bytes w v m) (r : Bool) (hr : decide (k1 = k2 ∧ l = m) = r) :
    Calls Try.prog 14 #[.agg #[.int .i64 k1, u], .agg #[.int .i64 k2, v]] w fun e w' => e = .returned (.bool r) ∧ Below w.heap.size w w' := by
  have HU := Lib.hid hu
  have HV := Lib.hid hv
  obtain ⟨x, cap, rfl, _, _⟩ := SlR.shape hu
  obtain ⟨y, dap, rfl, _, _⟩ := SlR.shape hv
  clear hu hv
  by_cases hk : k1 = k2
  · subst hk
    have HR : Hid (decide (l = m) = r) := by show _ = _; rw [← hr]; simp
    have hb : (k1 == k1) = true := by simp
    clear hr
    have HB := Lib.hid (Below.refl w.heap.size w)
    go_enter Try.func14, Try.ntmps14
    go_wp2_with fail
    refine Agg.calls_at fun w1 hw1 => ?_
    have hb : Below w.heap.size w w1 := by rw [hw1.out]; repeat (first | exact Below.refl _ _ | refine Agg.bel_drew ?_ | refine Agg.bel_alloc ?_ _)
    replace HB := Lib.hid (HB.out.trans (hb.mono HB.out.size))
    replace HU := Lib.hid (HU.out.keep hb)
    replace HV := Lib.hid (HV.out.keep hb)
    clear hb
    refine (bEqual_any l m _ _ w1 HU.out HV.out r HR.out).mono ?_
    rintro e w2 ⟨rfl, hb⟩
    replace HB := Lib.hid (HB.out.trans (hb.mono HB.out.size))
    replace HU := Lib.hid (HU.out.keep hb)
    replace HV := Lib.hid (HV.out.keep hb)
    clear hb
    go_wp2_with fail
    go_ret
    exact ⟨rfl, HB.out⟩
  · have HR : Hid (r = false) := by show _ = _; rw [← hr]; simp [hk]
    have hb : (k1 == k2) = false := by simpa using hk
    clear hr
    have HB := Lib.hid (Below.refl w.heap.size w)
    go_enter Try.func14, Try.ntmps14
    go_wp2_with fail
    go_ret
    exact ⟨by rw [HR.out]; rfl, bel_alloc (bel_alloc HB.out _) _⟩
end Go.Proofs.Ytoeofoihkkhpfaa
