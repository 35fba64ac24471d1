/-
  THE DOCUMENT's NUMBERS (layer 1): times, Mul.
-/
import Derived.Test.YtcedalenjcbnmaaWdA
namespace Go.Proofs.Ytcedalenjcbnmaa
open Go.ChangeShapes Go.WideShapes Go.ChangeAt Go.RowKit Agg Wd

theorem NB.nil (w : World) : NB w (.slice none 0 0) 0 := by
  show SlR _ _ _ _ _
  rw [digs_zero]; exact SlR.nil _ _
theorem drop_le (n k : Nat) : val ((digs n).drop k) ≤ n := by
  by_cases h : k ≤ (digs n).length
  · have h1 := val_cut (digs n) k h
    rw [val_digs] at h1
    have : val ((digs n).drop k) ≤ 2 ^ k * val ((digs n).drop k) := Nat.le_mul_of_pos_left _ (Nat.pow_pos (by decide))
    omega
  · rw [val_drop_none _ _ (by omega)]; omega
theorem bytes_new_int (w : World) (d : Nat) : (w.alloc (.cells #[.int .i64 (d : Int)] 3)).ownsRow w.heap.size 3 1 (.slice (some ⟨w.heap.size, 0, none⟩) 1 1) 1 (iD [d]) :=
  World.ownsRow_lit (e := 3) (size := 1) (base := w.heap.size) w #[.int .i64 (d : Int)] 1 (Nat.le_refl _) (by decide) rfl
set_option maxHeartbeats 4000000 in
set_option maxRecDepth 100000 in
theorem wtimes_any (a b : Nat) (ha : (digs a).length ≤ 900) (hb : (digs b).length ≤ 900) (hab : (digs (a * b)).length ≤ 900) (u v : Value) (w : World) (hu : NB w u a) (hv : NB w v b) :
    Calls Try.prog 61 #[u, v] w fun e w' => ∃ z, e = .returned z ∧ NB w' z (a * b) ∧ Below w.heap.size w w' := by
  have HBD := Lib.hid (digs_lt b)
  have HU : Hid (NB w u a) := Lib.hid hu
  have HV : Hid (SlR w v 1 (digs b).length (iD (digs b))) := Lib.hid hv
  have HLEN : Hid (∀ k, (digs (a * val ((digs b).drop k))).length ≤ 900) := Lib.hid (fun k => digs_le_len (Nat.mul_le_mul_left a (drop_le b k)) hab)
  have HVAL : Hid (val ((digs b).drop 0) = b) := Lib.hid (by rw [List.drop_zero, val_digs])
  have HA := Lib.hid ha
  clear hab ha
  obtain ⟨xu, cu, rfl, _, _⟩ := hu.shape
  clear hu hv
  obtain ⟨la, hla⟩ : ∃ la, la = (digs a).length := ⟨_, rfl⟩
  rw [← hla] at HU ⊢
  clear hla
  generalize digs b = B at *
  obtain ⟨y, cy, rfl, hcy, hmy⟩ := HV.out.shape
  unfold maxLen at hmy
  have HB := Lib.hid (Below.refl w.heap.size w)
  go_enter Try.func61, Try.ntmps61
  go_wp2_with fail
  go_loopw [6, 5] (fun i v wr => ∃ k : Nat, k ≤ B.length ∧ i = .int .i64 ((k : Int) - 1) ∧ NB wr v (a * val (B.drop k)) ∧ From w wr) (fun i _ _ => (intOf i + 1).toNat)
  case atStart => exact ⟨B.length, Nat.le_refl _, rfl, by rw [val_drop_none B _ (Nat.le_refl _), Nat.mul_zero]; exact NB.nil w, Below.refl _ _⟩
  case round =>
    obtain ⟨k, hk, rfl, hx, hb⟩ := hrel
    have hb : Below w.heap.size w wr := hb
    have HX := Lib.hid hx
    obtain ⟨xo, co, rfl, _, _⟩ := SlR.shape hx
    clear hx
    have HLK := HLEN.out k
    obtain ⟨X, hX⟩ : ∃ X, X = a * val (B.drop k) := ⟨_, rfl⟩
    rw [← hX] at HX HLK ⊢
    have HXE := Lib.hid hX
    clear hX
    have HLX := Lib.hid HLK
    clear HLK
    have HDX := Lib.hid (digs_lt X)
    have HVX := Lib.hid (val_digs X)
    have HX2 : Hid (SlR wr (.slice xo (digs X).length co) 1 (digs X).length (iD (digs X))) := Lib.hid HX.out
    clear HX
    obtain ⟨D, hD⟩ : ∃ D, D = digs X := ⟨_, rfl⟩
    rw [← hD] at HX2 HLX HDX HVX ⊢
    have HDD := Lib.hid hD
    clear hD
    have HK : Hid (From w wr) := Lib.hid hb
    have hb := hb
    replace HB := Lib.hid (HB.out.trans (hb.mono HB.out.size))
    replace HU := Lib.hid (HU.out.keep hb)
    replace HV := Lib.hid (HV.out.keep hb)
    clear hb
    by_cases h0 : (k : Int) - 1 ≥ 0
    · obtain ⟨j, rfl⟩ : ∃ j, k = j + 1 := ⟨k - 1, by omega⟩
      have e1 : ((j + 1 : Nat) : Int) - 1 = (j : Int) := by omega
      rw [e1] at h0 ⊢
      have hj : j < B.length := by omega
      have HD := Lib.hid (val_drop B j hj)
      have hd2 := mem_lt HBD.out j hj
      have hown := (bytes_new_int wr 0)
      have hsl := SlR.keep HX2.out ((Below.refl _ wr).alloc (Nat.le_refl _) (.cells #[.int .i64 0] 3))
      have hlx := HLX.out
      go_wp2_with (refine Agg.append2 tiN _ _ rfl rfl wr.heap.size rfl hown rfl hsl (iD_one D) (by unfold maxLen; omega) (by omega) (by simp) ?_; intro v3 w3 ho3 hg3 _; simp only [Act.put, List.setIfInBounds_toArray, List.set_cons_succ, List.set_cons_zero])
      have hb3 : Below wr.heap.size wr w3 := ((Below.refl _ wr).alloc (Nat.le_refl _) _).trans (grown_below hg3 (by simp) (own_block hown))
      have hz : SlR w3 v3 1 (0 :: D).length (iD (0 :: D)) := by
        have := ownSl ho3
        rw [Nat.add_comm] at this; exact this
      obtain ⟨x3, c3, rfl, _, _⟩ := SlR.shape hz
      clear hown hsl hg3 ho3
      have hb := hb3
      replace HB := Lib.hid (HB.out.trans (hb.mono HB.out.size))
      replace HU := Lib.hid (HU.out.keep hb)
      replace HV := Lib.hid (HV.out.keep hb)
      replace HX2 := Lib.hid (HX2.out.keep hb)
      replace HK := Lib.hid (HK.out.keep hb)
      clear hb
      have hl0 : ∀ d ∈ (0 :: D), d < 2 := by
        intro d hd
        rcases List.mem_cons.1 hd with e | e
        · subst e; decide
        · exact HDX.out d e
      refine (trim_any (0 :: D) hl0 (by simp; omega) _ w3 hz).mono ?_
      rintro e w31 ⟨z, rfl, hz2, hb⟩
      replace HB := Lib.hid (HB.out.trans (hb.mono HB.out.size))
      replace HU := Lib.hid (HU.out.keep hb)
      replace HV := Lib.hid (HV.out.keep hb)
      replace HX2 := Lib.hid (HX2.out.keep hb)
      replace HK := Lib.hid (HK.out.keep hb)
      clear hb
      rw [show val (0 :: D) = 2 * X by rw [val, HVX.out]; omega] at hz2
      obtain ⟨xz, cz, rfl, _, _⟩ := SlR.shape hz2
      have HZ := Lib.hid hz2
      clear hz hz2
      obtain ⟨b1, o1, _, hve, _, _, hcs, _⟩ := HV.out.pos (by decide) (by omega)
      simp only [Value.slice.injEq, true_and] at hve
      obtain ⟨rfl, rfl⟩ := hve
      have hc1 : w31.cell? ⟨b1, o1 + j, none⟩ = some (.int .i64 (B[j] : Int)) := hcs j _ (iD_get B j hj)
      clear hcs
      have HLJ := Lib.hid (HLEN.out j)
      have HLJ1 := Lib.hid (HLEN.out (j + 1))
      generalize B[j] = d at *
      rcases (by omega : d = 0 ∨ d = 1) with rfl | rfl
      · have hE : 2 * X = a * val (B.drop j) := by rw [HD.out, HXE.out, Nat.zero_add, Nat.mul_left_comm]
        rw [hE] at HZ ⊢
        clear hE
        go_wp2_with fail
        go_roundw
        case rel => exact ⟨j, by omega, rfl, HZ.out, HK.out⟩
        case measure => simp only [intOf]; omega
      · have hE : 2 * X + a = a * val (B.drop j) := by rw [HD.out, HXE.out, Nat.mul_add, Nat.mul_one, Nat.mul_left_comm]; omega
        have hlz : (digs (2 * X)).length ≤ 1000 := by
          have := digs_le_len (a := 2 * X) (b := a * val (B.drop j)) (by omega) HLJ.out
          omega
        have HE := Lib.hid hE
        clear hE
        go_wp2_with fail
        clear hc1
        refine (plus_any (2 * X) a hlz (by have := HA.out; omega) _ _ w31 HZ.out HU.out).mono ?_
        rintro e w32 ⟨z, rfl, hz3, hb⟩
        replace HB := Lib.hid (HB.out.trans (hb.mono HB.out.size))
        replace HU := Lib.hid (HU.out.keep hb)
        replace HV := Lib.hid (HV.out.keep hb)
        replace HK := Lib.hid (HK.out.keep hb)
        replace HZ := Lib.hid (HZ.out.keep hb)
        clear hb
        rw [HE.out] at hz3
        obtain ⟨xy, cyy, rfl, _, _⟩ := SlR.shape hz3
        have HZ3 := Lib.hid hz3
        clear hz3
        go_wp2_with fail
        go_roundw
        case rel => exact ⟨j, by omega, rfl, HZ3.out, HK.out⟩
        case measure => simp only [intOf]; omega
    · obtain rfl : k = 0 := by omega
      have hxe := HXE.out
      rw [HVAL.out] at hxe
      have hf : NB wr (.slice xo D.length co) (a * b) := by
        show SlR _ _ _ _ _
        rw [← hxe, ← HDD.out]
        exact HX2.out
      clear hxe
      have HFI := Lib.hid hf
      clear hf
      go_wp2_with fail
      go_ret
      exact ⟨_, rfl, HFI.out, HB.out⟩
end Go.Proofs.Ytcedalenjcbnmaa
