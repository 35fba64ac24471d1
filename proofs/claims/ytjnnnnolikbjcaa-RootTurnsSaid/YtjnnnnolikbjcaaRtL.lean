/-
  DEVICES: Light (from device's texts).
-/
import Derived.Test.YtjnnnnolikbjcaaRFdDw1
namespace Go.Proofs.Ytjnnnnolikbjcaa
open Go.ChangeShapes Go.WideShapes Go.ChangeAt Go.RowKit Agg Pg Dv

set_option maxHeartbeats 4000000 in
set_option maxRecDepth 100000 in
theorem lightC_any (d : Dev) (n : Int) (base t bn : Nat) (w : World) (HT : TurnO base w t d) (HN : Blk w bn 3 [.int .i64 n]) (hbn : bn < base) :
    Calls Try.prog 44 #[.pointer (some ⟨t, 0, none⟩), .pointer (some ⟨bn, 0, none⟩)] w fun e w' => e = .returned (.int .i64 (lightP d n).1) ∧ TurnO base w' t (lightP d n).2 ∧ Below base w w' := by
  obtain ⟨P, l, z, q⟩ := d
  obtain ⟨p, c, hbt, H1, HP, HC⟩ := HT
  obtain ⟨px, pc, rfl, _, _⟩ := (ownSl HP).shape
  obtain ⟨cx, cc, rfl, _, _⟩ := (ownSl HC).shape
  have HT1 := Lib.hid H1
  have h1 := H1
  have HP := Lib.hid HP
  have HC := Lib.hid HC
  have HN := Lib.hid HN
  have hlt := H1.lt
  obtain ⟨r, hr⟩ : ∃ r, lightP ⟨P, l, z, q⟩ n = r := ⟨_, rfl⟩
  rw [hr]
  have HR := Lib.hid hr
  clear H1 hr
  have HB := Lib.hid (Below.refl w.heap.size w)
  go_enter Try.func44, Try.ntmps44
  have xHT1_0 := HT1.out.cell 0
  have xHT1_1 := HT1.out.cell 1
  have xHT1_2 := HT1.out.cell 2
  have xHT1_3 := HT1.out.cell 3
  have lHT1 := HT1.out.lt
  simp only [List.getElem?_cons_zero, List.getElem?_cons_succ] at xHT1_0 xHT1_1 xHT1_2 xHT1_3
  have xHN_0 := HN.out.cell 0
  have lHN := HN.out.lt
  simp only [List.getElem?_cons_zero] at xHN_0
  by_cases hn : 0 ≤ n ∧ n ≤ 10000
  · have hr := HR.out
    rw [lightP, if_pos hn] at hr
    subst hr
    obtain ⟨hn1, hn2⟩ := hn
    go_wp2_with (refine Agg.gStoreCell 2 (.int .i64 n) h1 rfl rfl rfl rfl rfl (by kernel_rfl) rfl (by simp) rfl (fun w12 hb12 hg12 => ?_); clear h1)
    go_ret
    refine ⟨rfl, ⟨_, _, hbt, hb12, HP.out.kept hg12 (own_apart HP.out HT1.out bTne), HC.out.kept hg12 (own_apart HC.out HT1.out wTne)⟩, ?_⟩
    exact grown_below hg12 (by omega) (fun j hj => (by cases hj; exact hbt))
  · have hr := HR.out
    rw [lightP, if_neg hn] at hr
    subst hr
    by_cases h0 : n < 0
    · go_wp2_with fail
      go_ret
      exact ⟨rfl, ⟨_, _, hbt, HT1.out, HP.out, HC.out⟩, Below.refl _ _⟩
    · have hn2 : n > 10000 := by omega
      clear hn
      go_wp2_with fail
      go_ret
      exact ⟨rfl, ⟨_, _, hbt, HT1.out, HP.out, HC.out⟩, Below.refl _ _⟩
set_option maxHeartbeats 4000000 in
set_option maxRecDepth 100000 in
theorem light_any (P : List (List Sec)) (l : List (Int × List Sec)) (z : Int) (q : Bool) (x y : Option Addr) (cap cm : Nat) (k : Int) (w : World)
    (hd1 : P.length ≤ 1000000) (hd2 : l.length ≤ 1000000) (hp : Pgs w (.slice x P.length cap) P) (hv : Wrs w (.slice y l.length cm) l) (hP : ∀ b ∈ P, BOk b) (hC : ∀ x ∈ l, BOk x.2) :
    Calls Try.prog 16 #[.agg #[.slice x P.length cap, .slice y l.length cm, .int .i64 z, .bool q], .int .i64 k] w fun e w' => ∃ v, e = .returned (.tuple #[v, .int .i64 (goesP ⟨P, l, z, q⟩ (lightP ⟨P, l, z, q⟩ k)).1]) ∧ DevO w.heap.size w' v (goesP ⟨P, l, z, q⟩ (lightP ⟨P, l, z, q⟩ k)).2 ∧ Below w.heap.size w w' := by
  have HP := Lib.hid hp
  have HV := Lib.hid hv
  have HGO := Lib.hid (fun W caps h1 h2 h3 => goes_any P l z q x y cap cm 44 caps (Agg.enters Try.func44 (by kernel_rfl) rfl) (lightP ⟨P, l, z, q⟩ k) W hd1 hd2 h1 h2 hP hC h3)
  have HD := Lib.hid (And.intro hd1 hd2)
  obtain ⟨g, hg⟩ : ∃ g, goesP ⟨P, l, z, q⟩ (lightP ⟨P, l, z, q⟩ k) = g := ⟨_, rfl⟩
  rw [hg] at HGO ⊢
  clear hp hv hP hC hd1 hd2 hg
  have HB := Lib.hid (Below.refl w.heap.size w)
  go_enter Try.func16, Try.ntmps16
  go_upto_region 1 with (fail)
  refine Agg.wp_at fun w1 hw1 => ?_
  have hb : Below w.heap.size w w1 := by rw [hw1.out]; repeat (first | exact Below.refl _ _ | refine Agg.bel_drew ?_ | refine Agg.bel_alloc ?_ _)
  replace HB := Lib.hid (HB.out.trans (hb.mono HB.out.size))
  replace HP := Lib.hid (HP.out.keep hb)
  replace HV := Lib.hid (HV.out.keep hb)
  clear hb
  have H1 : Hid (Blk w1 w.heap.size 30 [.slice x P.length cap, .slice y l.length cm, .int .i64 z, .bool q]) := by show Blk _ _ _ _; rw [hw1.out]; exact ((Blk.new w 30 #[.slice x P.length cap, .slice y l.length cm, .int .i64 z, .bool q]).al _).al _
  have H2 : Hid (Blk w1 (w.heap.size + 1) 3 [.int .i64 k]) := by show Blk _ _ _ _; rw [hw1.out]; exact (Blk.newAt (w.alloc _) 3 #[.int .i64 k] _ (by simp)).al _
  have H4 : Hid (Blk w1 (w.heap.size + 2) 30 [.slice none 0 0, .slice none 0 0, .int .i64 0, .bool false]) := by show Blk _ _ _ _; rw [hw1.out]; exact Blk.newAt ((w.alloc _).alloc _) 30 #[.slice none 0 0, .slice none 0 0, .int .i64 0, .bool false] _ (by simp)
  clear hw1
  have xH1_0 := H1.out.cell 0
  have xH1_1 := H1.out.cell 1
  have xH1_2 := H1.out.cell 2
  have xH1_3 := H1.out.cell 3
  have lH1 := H1.out.lt
  simp only [List.getElem?_cons_zero, List.getElem?_cons_succ] at xH1_0 xH1_1 xH1_2 xH1_3
  go_wp2_with fail
  have l2 := H2.out.lt
  have l4 := H4.out.lt
  have hsz := HB.out.size
  clear xH1_0 xH1_1 xH1_2 xH1_3 lH1
  refine (HGO.out w1 #[.pointer (some ⟨w.heap.size + 1, 0, none⟩)] HP.out HV.out (fun hr hq W base t hbase hW hT => (lightC_any ⟨P, l, z, q⟩ k base t (w.heap.size + 1) W hT (H2.out.keep hW) (by omega)))).mono ?_
  rintro e w2 ⟨v, rfl, hv, hb⟩
  replace HB := Lib.hid (HB.out.trans (hb.mono HB.out.size))
  replace HP := Lib.hid (HP.out.keep hb)
  replace HV := Lib.hid (HV.out.keep hb)
  replace H1 := Lib.hid (H1.out.keep hb)
  replace H2 := Lib.hid (H2.out.keep hb)
  replace H4 := Lib.hid (H4.out.keep hb)
  clear hb
  obtain ⟨er, dr⟩ := g
  obtain ⟨p', c', rfl, hP5, hC5⟩ := hv
  obtain ⟨px', pc', rfl, _, _⟩ := (ownSl hP5).shape
  obtain ⟨cx', cc', rfl, _, _⟩ := (ownSl hC5).shape
  have h4 := H4.out
  have hsz5 := HB.out.size
  have HP5 := Lib.hid hP5
  have HC5 := Lib.hid hC5
  clear hP5 hC5
  go_wp2_with (refine Agg.gStoreB 4 [.slice px' dr.pages.length pc', .slice cx' dr.cache.length cc', .int .i64 dr.fuse, .bool dr.off] h4 rfl rfl rfl rfl rfl (by decide +kernel) rfl rfl (by simp [Value.oneCell']) (fun w14 hb14 hg14 => ?_))
  refine bodyPost_ret (results_row2 (m := 4) rfl hb14 rfl (by decide +kernel) rfl) rfl ⟨_, rfl, ⟨_, _, rfl, ?_, ?_⟩, ?_⟩
  · exact own_base (HP5.out.kept hg14 (own_off HP5.out l4)) hsz
  · exact own_base (HC5.out.kept hg14 (own_off HC5.out l4)) hsz
  · exact HB.out.trans (grown_below hg14 hsz5 (fun j hj => (by cases hj; omega)))
variable {d : Dev} {v : Value} {w : World}
theorem light_R (hg : DGood d) (hc : d.cache.length ≤ 1000000) (hv : DevR w v d) (k : Int) :
    Calls Try.prog 16 #[v, .int .i64 k] w fun e w' => ∃ u, e = .returned (.tuple #[u, .int .i64 (goesP d (lightP d k)).1]) ∧ DevO w.heap.size w' u (goesP d (lightP d k)).2 ∧ Below w.heap.size w w' := by
  obtain ⟨x, y, cap, cm, rfl, h2, h3⟩ := hv
  exact light_any d.pages d.cache d.fuse d.off x y cap cm k w hg.n1 hc h2 h3 hg.pages hg.cache
end Go.Proofs.Ytjnnnnolikbjcaa
