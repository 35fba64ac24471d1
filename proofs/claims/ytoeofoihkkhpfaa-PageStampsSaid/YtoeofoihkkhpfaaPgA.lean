/-
  PAGES: the page of a block.
-/
import Derived.Test.YtoeofoihkkhpfaaPg9
import Derived.Test.YtoeofoihkkhpfaaEq
namespace Go.Proofs.Ytoeofoihkkhpfaa
open Go.ChangeShapes Go.WideShapes Go.ChangeAt Go.RowKit Agg Pg

def ksSec : List (Option IntKind) := some .u64 :: List.replicate 32 (some .u8)
def ksBlk : List (Option IntKind) := (List.replicate 4 ksSec).flatten
set_option maxRecDepth 100000 in
theorem flatBlk : Flat Try.prog 5 36 ksBlk := ⟨by kernel_rfl, by kernel_rfl, by kernel_rfl, by kernel_rfl, by decide, by kernel_rfl⟩
theorem fits_bv (l : List UInt8) : Agg.Fits (List.replicate l.length (some .u8)) (bv l) := by
  induction l with
  | nil => trivial
  | cons c r ih =>
    refine ⟨⟨_, rfl, ?_⟩, ih⟩
    have := c.toNat_lt
    simp [Lit.wf, IntKind.min, IntKind.max, IntKind.signed, IntKind.bits]; omega
theorem fits_sec (s : Sec) (h : s.2.length = 32) (hs : s.1 < 18446744073709551616) : Agg.Fits ksSec (secC s) := by
  refine ⟨⟨_, rfl, ?_⟩, ?_⟩
  · simp [Lit.wf, IntKind.min, IntKind.max, IntKind.signed, IntKind.bits]; omega
  · have := fits_bv s.2
    rwa [h] at this
theorem fits_blk (b : List Sec) (hb : BOk b) : Agg.Fits ksBlk (blkC b) := by
  have h := Agg.Fits.mkRep (l := ksSec) (cs := b.map secC) (fun c hc => by
    obtain ⟨s, hs, rfl⟩ := List.mem_map.1 hc
    exact fits_sec s (hb.2 s hs).1 (hb.2 s hs).2)
  rw [List.length_map, hb.1] at h
  exact h
theorem blkC_inj {a b : List Sec} (h : blkC a = blkC b) (ha : BOk a) (hb : BOk b) : a = b := by
  apply List.ext_getElem (by rw [ha.1, hb.1])
  intro i h1 h2
  have e1 := blkC_sec a ha.len i h1 []
  have e2 := blkC_sec b hb.len i h2 []
  rw [h, e2] at e1
  have hs : secC b[i] = secC a[i] := e1
  unfold secC at hs
  simp only [List.cons.injEq, Value.int.injEq, true_and] at hs
  obtain ⟨p, q⟩ := hs
  have hbv : ∀ l m : List UInt8, bv l = bv m → l = m := by
    intro l
    induction l with
    | nil => intro m hm; cases m with | nil => rfl | cons _ _ => simp [bv] at hm
    | cons c r ih =>
      intro m hm
      cases m with
      | nil => simp [bv] at hm
      | cons c' r' =>
        simp only [bv, List.map_cons, List.cons.injEq, Value.int.injEq, true_and] at hm
        rw [UInt8.toNat_inj.1 (Int.ofNat.inj hm.1), ih r' hm.2]
  exact Prod.ext (Int.ofNat.inj p).symm (hbv _ _ q).symm
theorem layB_bok (kind : Int) (d : List UInt8) (n : Nat) (h : d.length ≤ 120) (hn : stampP n) : BOk (layB kind d n) := by
  have hk := layB_ok kind d n h
  refine ⟨hk.1, fun s hs => ⟨hk.2 s hs, ?_⟩⟩
  simp only [layB, secsOf, List.mem_cons, List.not_mem_nil, or_false] at hs
  unfold stampP at hn
  rcases hs with rfl | rfl | rfl | rfl <;> simp only <;> omega
theorem zero_bok : BOk zeroB := ⟨rfl, fun s hs => by rw [List.eq_of_mem_replicate hs]; exact ⟨rfl, by decide⟩⟩
theorem layR_bok (kind : Int) (d : List UInt8) (n : Nat) : BOk (layR kind d n).1 := by
  unfold layR
  split
  · rename_i h; exact layB_bok kind d n h.1.2.2 h.2
  · exact zero_bok
theorem blk_neq (a b : List Sec) (ha : BOk a) (hb : BOk b) (r : Bool) (hr : decide (a = b) = r) (w : World) : (binOp .neq 36 (.agg (blkC a).toArray) (.agg (blkC b).toArray)).run Try.prog w = .ok (.bool (!r)) w :=
  flatBlk.neq (fits_blk a ha) (fits_blk b hb) r (by rw [← hr, decide_eq_true_eq]; exact ⟨fun e => by rw [e], fun e => blkC_inj e ha hb⟩) w
theorem blk_eql (a b : List Sec) (ha : BOk a) (hb : BOk b) (r : Bool) (hr : decide (a = b) = r) (w : World) : (binOp .eql 36 (.agg (blkC a).toArray) (.agg (blkC b).toArray)).run Try.prog w = .ok (.bool r) w :=
  flatBlk.eql (fits_blk a ha) (fits_blk b hb) r (by rw [← hr, decide_eq_true_eq]; exact ⟨fun e => by rw [e], fun e => blkC_inj e ha hb⟩) w
/-- the page that Read tries: of the first bytes -/
def tryD (all : List UInt8) : List UInt8 := (all.drop 4).take (min (all.getD 1 0).toNat 120)
theorem form_iff (b : List Sec) (hb : BOk b) (hs : stampB b = true) (hh : Crc.sum (bytesB b) = 0#32) :
    formP (bytesB b) ↔ ((bytesB b).getD 1 0).toNat ≤ 120 ∧ (layR ((bytesB b).getD 0 0).toNat (tryD (bytesB b)) (st0 b)).2 = 0 ∧ (layR ((bytesB b).getD 0 0).toNat (tryD (bytesB b)) (st0 b)).1 = b := by
  obtain ⟨h1, h2⟩ := stampB_all hs
  constructor
  · intro hf
    have hn : ((bytesB b).getD 1 0).toNat ≤ 120 := hf.1
    obtain ⟨q1, q2⟩ := lay_again b hb.1 hb.len h2 hh hf
    have e : tryD (bytesB b) = ((bytesB b).drop 4).take ((bytesB b).getD 1 0).toNat := by unfold tryD; rw [Nat.min_eq_left hn]
    rw [e]
    unfold layR
    rw [if_pos ⟨q1, h1⟩]
    exact ⟨hn, rfl, q2⟩
  · rintro ⟨_, q1, q2⟩
    unfold layR at q1 q2
    split at q1
    · rename_i h
      rw [if_pos h] at q2
      exact (form_of_lay b hb.1 hb.len _ _ _ h.1 q2).1
    · cases q1
end Go.Proofs.Ytoeofoihkkhpfaa
