/- The walk of the law CryptoSigns. -/
import Derived.Test.YthbfaledmoobjaaDoorLawBase2
import Derived.Deep.RegionHeld3
import Derived.BigQuiet
namespace Go.Proofs.YthbfaledmoobjaaDoor
open Go.RowKit

set_option maxRecDepth 100000 in
set_option maxHeartbeats 80000000 in
theorem signsWalk (A : Option Addr) (n c : Nat) (l : List OpN) (x y z : Int) (w : World) (h : Os w A n c l) (hw : Hid (∀ o ∈ l, OWf o)) (_hx : W64 x) (_hy : W64 y) (_hz : W64 z) (hT : Tb w.heap.size w) :
    Calls Tryd.prog 6 #[.slice A n c, .int .i64 x, .int .i64 y, .int .i64 z] w fun e w' => e = .returned (.bool true) ∧ Below w.heap.size w w' := by
  obtain ⟨W0, hW0⟩ : ∃ W0, (((w.alloc (.cells #[.int .i64 x] 3)).alloc (.cells #[.int .i64 y] 3)).alloc (.cells #[.int .i64 z] 3)) = W0 := ⟨_, rfl⟩
  have hB0 : Below w.heap.size w W0 := by rw [← hW0]; exact (((Below.refl _ w).alloc (by simp) _).alloc (by simp; try omega) _).alloc (by simp; try omega) _
  have hbx0 : Boxes W0 w.heap.size [x, y, z] := by
    rw [← hW0]
    exact boxes3 w x y z
  have hsz0 : W0.heap.size = w.heap.size + 3 := by rw [← hW0]; simp
  have HLV := Lib.hid (live_ok W0 (hT.here hB0))
  have HO := Lib.hid h
  have HT := Lib.hid hT
  have HW0 := Lib.hid hW0; have HB0 := Lib.hid hB0; have HBX0 := Lib.hid hbx0; have HSZ0 := Lib.hid hsz0
  clear h hT hW0 hB0 hbx0 hsz0
  go_enter Tryd.func6, Tryd.ntmps6
  go_wp2_with (go_at_call 8; rw [HW0.out]; refine HLV.out.mono ?_; rintro e w1 ⟨rfl, hB1⟩; refine Hid.out ?_)
  refine Lib.hid ?_
  have hB1w := HB0.out.trans (hB1.mono (by have := HSZ0.out; omega))
  have HF := Lib.hid (few_ok A n c l w1 ((HO.out).below hB1w))
  have HBX1 := Lib.hid ((HBX0.out).below hB1 (by have := HSZ0.out; simp; omega))
  have HS1 := Lib.hid hB1.size
  obtain ⟨f, hf⟩ : ∃ f, decide (Few l) = f := ⟨_, rfl⟩
  rw [hf] at HF
  have HFE := Lib.hid hf
  have HB1 := Lib.hid hB1w
  clear hB1 hB1w hf
  go_wp2_with (go_at_call 9; refine HF.out.mono ?_; rintro e w2 ⟨rfl, hB2⟩; refine Hid.out ?_)
  refine Lib.hid ?_
  have HBX2 := Lib.hid ((HBX1.out).below hB2 (by have := HSZ0.out; have := HS1.out; simp; omega))
  have hs2 : w.heap.size + 3 ≤ w2.heap.size := by have := hB2.size; have := HSZ0.out; have := HS1.out; omega
  have HB2 := Lib.hid (HB1.out.trans (hB2.mono (by have := HSZ0.out; have := HS1.out; omega)))
  clear hB2
  cases f
  · go_wp2_with fail
    go_ret
    exact ⟨rfl, HB2.out⟩
  have HG := Lib.hid (grown_ok A n c l w2 ((HO.out).below HB2.out) (of_decide_eq_true HFE.out) hw (HT.out.here HB2.out))
  obtain ⟨B, hB⟩ : ∃ B, w2.heap.size = B := ⟨_, rfl⟩
  have HBB := Lib.hid hB
  rw [hB] at hs2
  clear hB
  go_wp2_with (go_at_call 10; refine HG.out.mono ?_; rintro e w3 ⟨b, O, oc, outs, ns, rfl, hR3, hB3, hl3, hO3, hN3, ho5, hou⟩; refine Hid.out ?_)
  refine Lib.hid ?_
  have HBX3 := Lib.hid ((HBX2.out).below hB3 (by rw [HBB.out]; simp; omega))
  rw [HBB.out] at hR3 hB3 hN3
  have HB3 := Lib.hid (HB2.out.trans (hB3.mono (by omega)))
  have hs3 : B ≤ w3.heap.size := hR3.base_le
  have hpos := outs_pos hou ho5
  have HR3 := Lib.hid hR3
  have HL3 := Lib.hid (len_ok _ b ns w3 hR3)
  have HO3 := Lib.hid hO3; have HN3 := Lib.hid hN3; have HO5 := Lib.hid ho5; have HOU := Lib.hid hou
  clear hB3 hR3 hO3 hN3 ho5 hou
  go_wp2_with (go_at_call 11; refine HL3.out.mono ?_; rintro e w' ⟨rfl, rfl⟩; refine Hid.out ?_)
  refine Lib.hid ?_
  obtain ⟨m, hm⟩ : ∃ m : Int, (ns.length : Int) = m := ⟨_, rfl⟩
  have HM := Lib.hid hm
  rw [hm]
  have hm0 : 0 < m := by omega
  have hm9 : m ≤ 605 := by omega
  clear hm
  have t1 : decide (0 < m) = true := decide_eq_true hm0
  obtain ⟨g, hg⟩ : ∃ g, w3.heap.size = g := ⟨_, rfl⟩
  have HGE := Lib.hid hg
  rw [hg] at hs3
  clear hg
  go_wp2_with fail
  rw [HGE.out]
  go_loopw [50] (fun i wz => ∃ k : Nat, k ≤ 3 ∧ i = .int .i64 (k : Int) ∧ Hid (Boxes wz w.heap.size (nrm m [x, y, z] k)) ∧ Hid (AR wz B b ns) ∧ Hid (wz.heap[g]? = some (.cells #[.pointer (some ⟨w.heap.size, 0, none⟩), .pointer (some ⟨w.heap.size + 1, 0, none⟩), .pointer (some ⟨w.heap.size + 2, 0, none⟩)] 36 (0, 0))) ∧ Hid (Below w.heap.size w wz) ∧ Hid (Sl wz O 5 oc (iv outs) ∧ NumsB B wz O outs)) (fun i _ => 3 - (intOf i).toNat)
  case atStart =>
    refine ⟨0, by omega, rfl, Lib.hid ?_, Lib.hid ((HR3.out).alloc _), Lib.hid (by rw [← HGE.out]; exact heap_alloc_new _ _), Lib.hid ((HB3.out).alloc (by have := HGE.out; omega) _), Lib.hid ⟨HO3.out.alloc _, ⟨HN3.out.1.keep (fun q hq => Below.heap_alloc _ _ _ hq), HN3.out.2⟩⟩⟩
    exact (HBX3.out).below (B := g) ((Below.refl _ w3).alloc (by rw [HGE.out]; exact Nat.le_refl _) _) (by simp; omega)
  case round =>
    obtain ⟨k, hk, rfl, HX, HR, HP, HBW, HOO⟩ := hrel
    by_cases hlt : k < 3
    · have hk' : k = 0 ∨ k = 1 ∨ k = 2 := by omega
      clear hlt hk
      rcases hk' with rfl | rfl | rfl
      · have c0 : wr.cell? ⟨w.heap.size, 0, none⟩ = some (.int .i64 x) := (HX.out).cell (j := 0) rfl
        have y0 : wr.frozen? ⟨w.heap.size, 0, none⟩ = false := (HX.out).frz (j := 0) rfl
        have d0 : wr.cell? ⟨g, 0, none⟩ = some (.pointer (some ⟨w.heap.size, 0, none⟩)) := cell_of HP.out 0
        have hq := tmod_lt (x := x) hm0
        have hX2 := (HX.out).set (j := 0) (by simp [nrm]) (nf m x)
        have hR2 := (HR.out).setb (a := ⟨w.heap.size, 0, none⟩) (by show w.heap.size < B; omega) (.int .i64 (nf m x))
        have hP2 : (wr.setCell ⟨w.heap.size, 0, none⟩ (.int .i64 (nf m x))).heap[g]? = _ := (heap_setCell_other _ _ _ _ (by show g ≠ w.heap.size; omega)).trans HP.out
        have hBW2 := (HBW.out).setCell (p := ⟨w.heap.size, 0, none⟩) (by show w.heap.size ≤ w.heap.size; omega) (.int .i64 (nf m x))
        have hOO2 := sl_setb HOO.out.1 HOO.out.2 (a := ⟨w.heap.size, 0, none⟩) (by show w.heap.size < B; omega) (.int .i64 (nf m x))
        have HX2 := Lib.hid hX2; have HR2 := Lib.hid hR2; have HP2 := Lib.hid hP2; have HBW2 := Lib.hid hBW2; have HOO2 := Lib.hid hOO2
        clear hX2 hR2 hP2 hBW2 hOO2
        go_wp2_with fail
        go_roundw
        case rel => exact ⟨1, by omega, rfl, HX2, HR2, HP2, HBW2, HOO2⟩
        case measure => simp [intOf]; try decide
      · have c0 : wr.cell? ⟨w.heap.size + 1, 0, none⟩ = some (.int .i64 y) := (HX.out).cell (j := 1) rfl
        have y0 : wr.frozen? ⟨w.heap.size + 1, 0, none⟩ = false := (HX.out).frz (j := 1) rfl
        have d0 : wr.cell? ⟨g, 1, none⟩ = some (.pointer (some ⟨w.heap.size + 1, 0, none⟩)) := cell_of HP.out 1
        have hq := tmod_lt (x := y) hm0
        have hX2 := (HX.out).set (j := 1) (by simp [nrm]) (nf m y)
        have hR2 := (HR.out).setb (a := ⟨w.heap.size + 1, 0, none⟩) (by show w.heap.size + 1 < B; omega) (.int .i64 (nf m y))
        have hP2 : (wr.setCell ⟨w.heap.size + 1, 0, none⟩ (.int .i64 (nf m y))).heap[g]? = _ := (heap_setCell_other _ _ _ _ (by show g ≠ w.heap.size + 1; omega)).trans HP.out
        have hBW2 := (HBW.out).setCell (p := ⟨w.heap.size + 1, 0, none⟩) (by show w.heap.size ≤ w.heap.size + 1; omega) (.int .i64 (nf m y))
        have hOO2 := sl_setb HOO.out.1 HOO.out.2 (a := ⟨w.heap.size + 1, 0, none⟩) (by show w.heap.size + 1 < B; omega) (.int .i64 (nf m y))
        have HX2 := Lib.hid hX2; have HR2 := Lib.hid hR2; have HP2 := Lib.hid hP2; have HBW2 := Lib.hid hBW2; have HOO2 := Lib.hid hOO2
        clear hX2 hR2 hP2 hBW2 hOO2
        go_wp2_with fail
        go_roundw
        case rel => exact ⟨2, by omega, rfl, HX2, HR2, HP2, HBW2, HOO2⟩
        case measure => simp [intOf]; try decide
      · have c0 : wr.cell? ⟨w.heap.size + 2, 0, none⟩ = some (.int .i64 z) := (HX.out).cell (j := 2) rfl
        have y0 : wr.frozen? ⟨w.heap.size + 2, 0, none⟩ = false := (HX.out).frz (j := 2) rfl
        have d0 : wr.cell? ⟨g, 2, none⟩ = some (.pointer (some ⟨w.heap.size + 2, 0, none⟩)) := cell_of HP.out 2
        have hq := tmod_lt (x := z) hm0
        have hX2 := (HX.out).set (j := 2) (by simp [nrm]) (nf m z)
        have hR2 := (HR.out).setb (a := ⟨w.heap.size + 2, 0, none⟩) (by show w.heap.size + 2 < B; omega) (.int .i64 (nf m z))
        have hP2 : (wr.setCell ⟨w.heap.size + 2, 0, none⟩ (.int .i64 (nf m z))).heap[g]? = _ := (heap_setCell_other _ _ _ _ (by show g ≠ w.heap.size + 2; omega)).trans HP.out
        have hBW2 := (HBW.out).setCell (p := ⟨w.heap.size + 2, 0, none⟩) (by show w.heap.size ≤ w.heap.size + 2; omega) (.int .i64 (nf m z))
        have hOO2 := sl_setb HOO.out.1 HOO.out.2 (a := ⟨w.heap.size + 2, 0, none⟩) (by show w.heap.size + 2 < B; omega) (.int .i64 (nf m z))
        have HX2 := Lib.hid hX2; have HR2 := Lib.hid hR2; have HP2 := Lib.hid hP2; have HBW2 := Lib.hid hBW2; have HOO2 := Lib.hid hOO2
        clear hX2 hR2 hP2 hBW2 hOO2
        go_wp2_with fail
        go_roundw
        case rel => exact ⟨3, by omega, rfl, HX2, HR2, HP2, HBW2, HOO2⟩
        case measure => simp [intOf]; try decide
    · obtain rfl : k = 3 := by omega
      clear hlt hk
      obtain ⟨v0, hv0⟩ : ∃ v, nf m x = v := ⟨_, rfl⟩
      obtain ⟨v1, hv1⟩ : ∃ v, nf m y = v := ⟨_, rfl⟩
      obtain ⟨v2, hv2⟩ : ∃ v, nf m z = v := ⟨_, rfl⟩
      have HX0 : Hid (Boxes wr w.heap.size [v0, v1, v2]) := Lib.hid (by rw [← hv0, ← hv1, ← hv2]; exact HX.out)
      have HH : Hid (∀ v ∈ [v0, v1, v2], W64 v) := Lib.hid (by
        rw [← hv0, ← hv1, ← hv2]
        intro v hv
        simp at hv
        rcases hv with rfl | rfl | rfl <;> (rw [← HM.out]; exact nf_w64 hpos hl3 _))
      have HF0 : Hid (∀ v ∈ [v0, v1, v2], hasF ns v = true) := Lib.hid (by
        rw [← hv0, ← hv1, ← hv2]
        intro v hv
        simp at hv
        rcases hv with rfl | rfl | rfl <;> (rw [← HM.out]; exact nf_has hpos _))
      have HTB : Hid (∀ W, Below w.heap.size w W → Tb B W) := Lib.hid (fun W hW => (HT.out.on hW).mono (by omega))
      have HR0 := HR; have HB0' := HBW
      have hl0 : ns.length ≤ 605 := hl3
      clear hv0 hv1 hv2 hm0 hm9 t1
      have c0 : wr.cell? ⟨w.heap.size, 0, none⟩ = some (.int .i64 v0) := (HX0.out).cell (j := 0) rfl
      have c1 : wr.cell? ⟨w.heap.size + 1, 0, none⟩ = some (.int .i64 v1) := (HX0.out).cell (j := 1) rfl
      have c2 : wr.cell? ⟨w.heap.size + 2, 0, none⟩ = some (.int .i64 v2) := (HX0.out).cell (j := 2) rfl
      have HC1 := Lib.hid (fresh_ok B b ns 999 wr HR0.out (by unfold W64; omega) (HTB.out _ HB0'.out))
      go_wp2_with (go_at_call 20; refine HC1.out.mono ?_; rintro e z1 hP; obtain ⟨dr, e1, ns1, rfl, hR, hA, hG, hWt, hM⟩ := hP.gr; refine Hid.out ?_)
      refine Lib.hid ?_
      obtain ⟨rfl, ht⟩ := hM.isT (may_atom (n := 999) (by omega)) (by omega)
      have hl1 : ns1.length ≤ 606 := by have := hG.2; omega
      have Idr_1 := Lib.hid ht; have Wdr := Lib.hid hWt
      have HX1 := Lib.hid ((HX0.out).below hA.below (by simp; omega))
      have HF1 : Hid (∀ v ∈ [v0, v1, v2], hasF ns1 v = true) := Lib.hid (fun v hv => hG.has (HF0.out v hv))
      have HR1 := Lib.hid hR
      have HB1' := Lib.hid (HB0'.out.trans (hA.below.mono (by omega)))
      clear hR hA hG hM hWt ht hP
      clear c0 c1 c2
      have c0 : z1.cell? ⟨w.heap.size, 0, none⟩ = some (.int .i64 v0) := (HX1.out).cell (j := 0) rfl
      have c1 : z1.cell? ⟨w.heap.size + 1, 0, none⟩ = some (.int .i64 v1) := (HX1.out).cell (j := 1) rfl
      have c2 : z1.cell? ⟨w.heap.size + 2, 0, none⟩ = some (.int .i64 v2) := (HX1.out).cell (j := 2) rfl
      have HC2 := Lib.hid (fresh_ok B b ns1 998 z1 HR1.out (by unfold W64; omega) (HTB.out _ HB1'.out))
      go_wp2_with (go_at_call 20; refine HC2.out.mono ?_; rintro e z2 hP; obtain ⟨wr_, e2, ns2, rfl, hR, hA, hG, hWt, hM⟩ := hP.gr; refine Hid.out ?_)
      refine Lib.hid ?_
      obtain ⟨rfl, ht⟩ := hM.isT (may_atom (n := 998) (by omega)) (by omega)
      have hl2 : ns2.length ≤ 607 := by have := hG.2; omega
      have Idr_2 := Lib.hid ((Idr_1.out).grow hG)
      have Iwr__2 := Lib.hid ht; have Wwr_ := Lib.hid hWt
      have HX2 := Lib.hid ((HX1.out).below hA.below (by simp; omega))
      have HF2 : Hid (∀ v ∈ [v0, v1, v2], hasF ns2 v = true) := Lib.hid (fun v hv => hG.has (HF1.out v hv))
      have HR2 := Lib.hid hR
      have HB2' := Lib.hid (HB1'.out.trans (hA.below.mono (by omega)))
      clear hR hA hG hM hWt ht hP
      clear c0 c1 c2
      have c0 : z2.cell? ⟨w.heap.size, 0, none⟩ = some (.int .i64 v0) := (HX2.out).cell (j := 0) rfl
      have c1 : z2.cell? ⟨w.heap.size + 1, 0, none⟩ = some (.int .i64 v1) := (HX2.out).cell (j := 1) rfl
      have c2 : z2.cell? ⟨w.heap.size + 2, 0, none⟩ = some (.int .i64 v2) := (HX2.out).cell (j := 2) rfl
      have HC3 := Lib.hid (public_ok B b ns2 v0 z2 HR2.out (HH.out v0 (by simp)) (HTB.out _ HB2'.out))
      go_wp2_with (go_at_call 19; refine HC3.out.mono ?_; rintro e z3 hP; obtain ⟨pk, e3, ns3, rfl, hR, hA, hG, hWt, hM⟩ := hP.gr; refine Hid.out ?_)
      refine Lib.hid ?_
      obtain ⟨rfl, ht⟩ := hM.isT (may_of (by simp [arF]) (by simp) (known1 (HF2.out v0 (by simp))) (by decide)) (by omega)
      have hl3 : ns3.length ≤ 608 := by have := hG.2; omega
      have Idr_3 := Lib.hid ((Idr_2.out).grow hG)
      have Iwr__3 := Lib.hid ((Iwr__2.out).grow hG)
      have Ipk_3 := Lib.hid ht; have Wpk := Lib.hid hWt
      have HX3 := Lib.hid ((HX2.out).below hA.below (by simp; omega))
      have HF3 : Hid (∀ v ∈ [v0, v1, v2], hasF ns3 v = true) := Lib.hid (fun v hv => hG.has (HF2.out v hv))
      have HR3 := Lib.hid hR
      have HB3' := Lib.hid (HB2'.out.trans (hA.below.mono (by omega)))
      clear hR hA hG hM hWt ht hP
      clear c0 c1 c2
      have c0 : z3.cell? ⟨w.heap.size, 0, none⟩ = some (.int .i64 v0) := (HX3.out).cell (j := 0) rfl
      have c1 : z3.cell? ⟨w.heap.size + 1, 0, none⟩ = some (.int .i64 v1) := (HX3.out).cell (j := 1) rfl
      have c2 : z3.cell? ⟨w.heap.size + 2, 0, none⟩ = some (.int .i64 v2) := (HX3.out).cell (j := 2) rfl
      have HC4 := Lib.hid (public_ok B b ns3 v2 z3 HR3.out (HH.out v2 (by simp)) (HTB.out _ HB3'.out))
      go_wp2_with (go_at_call 19; refine HC4.out.mono ?_; rintro e z4 hP; obtain ⟨pq, e4, ns4, rfl, hR, hA, hG, hWt, hM⟩ := hP.gr; refine Hid.out ?_)
      refine Lib.hid ?_
      obtain ⟨rfl, ht⟩ := hM.isT (may_of (by simp [arF]) (by simp) (known1 (HF3.out v2 (by simp))) (by decide)) (by omega)
      have hl4 : ns4.length ≤ 609 := by have := hG.2; omega
      have Idr_4 := Lib.hid ((Idr_3.out).grow hG)
      have Iwr__4 := Lib.hid ((Iwr__3.out).grow hG)
      have Ipk_4 := Lib.hid ((Ipk_3.out).grow hG)
      have Ipq_4 := Lib.hid ht; have Wpq := Lib.hid hWt
      have HX4 := Lib.hid ((HX3.out).below hA.below (by simp; omega))
      have HF4 : Hid (∀ v ∈ [v0, v1, v2], hasF ns4 v = true) := Lib.hid (fun v hv => hG.has (HF3.out v hv))
      have HR4 := Lib.hid hR
      have HB4' := Lib.hid (HB3'.out.trans (hA.below.mono (by omega)))
      clear hR hA hG hM hWt ht hP
      clear c0 c1 c2
      have c0 : z4.cell? ⟨w.heap.size, 0, none⟩ = some (.int .i64 v0) := (HX4.out).cell (j := 0) rfl
      have c1 : z4.cell? ⟨w.heap.size + 1, 0, none⟩ = some (.int .i64 v1) := (HX4.out).cell (j := 1) rfl
      have c2 : z4.cell? ⟨w.heap.size + 2, 0, none⟩ = some (.int .i64 v2) := (HX4.out).cell (j := 2) rfl
      have HC5 := Lib.hid (sign_ok B b ns4 v0 v1 z4 HR4.out (HH.out v0 (by simp)) (HH.out v1 (by simp)) (HTB.out _ HB4'.out))
      go_wp2_with (go_at_call 17; refine HC5.out.mono ?_; rintro e z5 hP; obtain ⟨sg, e5, ns5, rfl, hR, hA, hG, hWt, hM⟩ := hP.gr; refine Hid.out ?_)
      refine Lib.hid ?_
      obtain ⟨rfl, ht⟩ := hM.isT (may_of (by simp [arF]) (by simp) (known2 (HF4.out v0 (by simp)) (HF4.out v1 (by simp))) (by decide)) (by omega)
      have hl5 : ns5.length ≤ 610 := by have := hG.2; omega
      have Idr_5 := Lib.hid ((Idr_4.out).grow hG)
      have Iwr__5 := Lib.hid ((Iwr__4.out).grow hG)
      have Ipk_5 := Lib.hid ((Ipk_4.out).grow hG)
      have Ipq_5 := Lib.hid ((Ipq_4.out).grow hG)
      have Isg_5 := Lib.hid ht; have Wsg := Lib.hid hWt
      have HX5 := Lib.hid ((HX4.out).below hA.below (by simp; omega))
      have HF5 : Hid (∀ v ∈ [v0, v1, v2], hasF ns5 v = true) := Lib.hid (fun v hv => hG.has (HF4.out v hv))
      have HR5 := Lib.hid hR
      have HB5' := Lib.hid (HB4'.out.trans (hA.below.mono (by omega)))
      clear hR hA hG hM hWt ht hP
      clear c0 c1 c2
      have c0 : z5.cell? ⟨w.heap.size, 0, none⟩ = some (.int .i64 v0) := (HX5.out).cell (j := 0) rfl
      have c1 : z5.cell? ⟨w.heap.size + 1, 0, none⟩ = some (.int .i64 v1) := (HX5.out).cell (j := 1) rfl
      have c2 : z5.cell? ⟨w.heap.size + 2, 0, none⟩ = some (.int .i64 v2) := (HX5.out).cell (j := 2) rfl
      have HC6 := Lib.hid (tag_ok B b ns5 v0 v1 z5 HR5.out (HH.out v0 (by simp)) (HH.out v1 (by simp)) (HTB.out _ HB5'.out))
      go_wp2_with (go_at_call 23; refine HC6.out.mono ?_; rintro e z6 hP; obtain ⟨tg, e6, ns6, rfl, hR, hA, hG, hWt, hM⟩ := hP.gr; refine Hid.out ?_)
      refine Lib.hid ?_
      obtain ⟨rfl, ht⟩ := hM.isT (may_of (by simp [arF]) (by simp) (known2 (HF5.out v0 (by simp)) (HF5.out v1 (by simp))) (by decide)) (by omega)
      have hl6 : ns6.length ≤ 611 := by have := hG.2; omega
      have Idr_6 := Lib.hid ((Idr_5.out).grow hG)
      have Iwr__6 := Lib.hid ((Iwr__5.out).grow hG)
      have Ipk_6 := Lib.hid ((Ipk_5.out).grow hG)
      have Ipq_6 := Lib.hid ((Ipq_5.out).grow hG)
      have Isg_6 := Lib.hid ((Isg_5.out).grow hG)
      have Itg_6 := Lib.hid ht; have Wtg := Lib.hid hWt
      have HX6 := Lib.hid ((HX5.out).below hA.below (by simp; omega))
      have HF6 : Hid (∀ v ∈ [v0, v1, v2], hasF ns6 v = true) := Lib.hid (fun v hv => hG.has (HF5.out v hv))
      have HR6 := Lib.hid hR
      have HB6' := Lib.hid (HB5'.out.trans (hA.below.mono (by omega)))
      clear hR hA hG hM hWt ht hP
      clear c0 c1 c2
      have c0 : z6.cell? ⟨w.heap.size, 0, none⟩ = some (.int .i64 v0) := (HX6.out).cell (j := 0) rfl
      have c1 : z6.cell? ⟨w.heap.size + 1, 0, none⟩ = some (.int .i64 v1) := (HX6.out).cell (j := 1) rfl
      have c2 : z6.cell? ⟨w.heap.size + 2, 0, none⟩ = some (.int .i64 v2) := (HX6.out).cell (j := 2) rfl
      have HC7 := Lib.hid (blind_ok B b ns6 v1 dr z6 HR6.out (HH.out v1 (by simp)) Wdr.out (HTB.out _ HB6'.out))
      go_wp2_with (go_at_call 16; refine HC7.out.mono ?_; rintro e z7 hP; obtain ⟨bl, e7, ns7, rfl, hR, hA, hG, hWt, hM⟩ := hP.gr; refine Hid.out ?_)
      refine Lib.hid ?_
      obtain ⟨rfl, ht⟩ := hM.isT (may_of (by simp [arF]) (by simp) (known2 (HF6.out v1 (by simp)) Idr_6.out.has) (by decide)) (by omega)
      have hl7 : ns7.length ≤ 612 := by have := hG.2; omega
      have Idr_7 := Lib.hid ((Idr_6.out).grow hG)
      have Iwr__7 := Lib.hid ((Iwr__6.out).grow hG)
      have Ipk_7 := Lib.hid ((Ipk_6.out).grow hG)
      have Ipq_7 := Lib.hid ((Ipq_6.out).grow hG)
      have Isg_7 := Lib.hid ((Isg_6.out).grow hG)
      have Itg_7 := Lib.hid ((Itg_6.out).grow hG)
      have Ibl_7 := Lib.hid ht; have Wbl := Lib.hid hWt
      have HX7 := Lib.hid ((HX6.out).below hA.below (by simp; omega))
      have HF7 : Hid (∀ v ∈ [v0, v1, v2], hasF ns7 v = true) := Lib.hid (fun v hv => hG.has (HF6.out v hv))
      have HR7 := Lib.hid hR
      have HB7' := Lib.hid (HB6'.out.trans (hA.below.mono (by omega)))
      clear hR hA hG hM hWt ht hP
      clear c0 c1 c2
      have c0 : z7.cell? ⟨w.heap.size, 0, none⟩ = some (.int .i64 v0) := (HX7.out).cell (j := 0) rfl
      have c1 : z7.cell? ⟨w.heap.size + 1, 0, none⟩ = some (.int .i64 v1) := (HX7.out).cell (j := 1) rfl
      have c2 : z7.cell? ⟨w.heap.size + 2, 0, none⟩ = some (.int .i64 v2) := (HX7.out).cell (j := 2) rfl
      have HC8 := Lib.hid (sign_ok B b ns7 v0 bl z7 HR7.out (HH.out v0 (by simp)) Wbl.out (HTB.out _ HB7'.out))
      go_wp2_with (go_at_call 17; refine HC8.out.mono ?_; rintro e z8 hP; obtain ⟨bs, e8, ns8, rfl, hR, hA, hG, hWt, hM⟩ := hP.gr; refine Hid.out ?_)
      refine Lib.hid ?_
      obtain ⟨rfl, ht⟩ := hM.isT (may_of (by simp [arF]) (by simp) (known2 (HF7.out v0 (by simp)) Ibl_7.out.has) (by decide)) (by omega)
      have hl8 : ns8.length ≤ 613 := by have := hG.2; omega
      have Idr_8 := Lib.hid ((Idr_7.out).grow hG)
      have Iwr__8 := Lib.hid ((Iwr__7.out).grow hG)
      have Ipk_8 := Lib.hid ((Ipk_7.out).grow hG)
      have Ipq_8 := Lib.hid ((Ipq_7.out).grow hG)
      have Isg_8 := Lib.hid ((Isg_7.out).grow hG)
      have Itg_8 := Lib.hid ((Itg_7.out).grow hG)
      have Ibl_8 := Lib.hid ((Ibl_7.out).grow hG)
      have Ibs_8 := Lib.hid ht; have Wbs := Lib.hid hWt
      have HX8 := Lib.hid ((HX7.out).below hA.below (by simp; omega))
      have HF8 : Hid (∀ v ∈ [v0, v1, v2], hasF ns8 v = true) := Lib.hid (fun v hv => hG.has (HF7.out v hv))
      have HR8 := Lib.hid hR
      have HB8' := Lib.hid (HB7'.out.trans (hA.below.mono (by omega)))
      clear hR hA hG hM hWt ht hP
      clear c0 c1 c2
      have c0 : z8.cell? ⟨w.heap.size, 0, none⟩ = some (.int .i64 v0) := (HX8.out).cell (j := 0) rfl
      have c1 : z8.cell? ⟨w.heap.size + 1, 0, none⟩ = some (.int .i64 v1) := (HX8.out).cell (j := 1) rfl
      have c2 : z8.cell? ⟨w.heap.size + 2, 0, none⟩ = some (.int .i64 v2) := (HX8.out).cell (j := 2) rfl
      have HC9 := Lib.hid (unblind_ok B b ns8 bs dr z8 HR8.out (HTB.out _ HB8'.out))
      go_wp2_with (go_at_call 18; refine HC9.out.mono ?_; rintro e z9 ⟨un, e9, ns9, rfl, hR, hA, hG, hWt, hM⟩; refine Hid.out ?_)
      refine Lib.hid ?_
      obtain ⟨rfl, ht⟩ := (hM.1 (known2 Ibs_8.out.has Idr_8.out.has) v0 v1 ((blinds_iff Ibs_8.out Ibl_8.out).2 ⟨rfl, rfl, rfl⟩)).isT (may_of (by simp [arF]) (by simp) (known2 (HF8.out v0 (by simp)) (HF8.out v1 (by simp))) (by decide)) (by omega)
      have hl9 : ns9.length ≤ 614 := by have := hG.2; omega
      have Idr_9 := Lib.hid ((Idr_8.out).grow hG)
      have Iwr__9 := Lib.hid ((Iwr__8.out).grow hG)
      have Ipk_9 := Lib.hid ((Ipk_8.out).grow hG)
      have Ipq_9 := Lib.hid ((Ipq_8.out).grow hG)
      have Isg_9 := Lib.hid ((Isg_8.out).grow hG)
      have Itg_9 := Lib.hid ((Itg_8.out).grow hG)
      have Ibl_9 := Lib.hid ((Ibl_8.out).grow hG)
      have Ibs_9 := Lib.hid ((Ibs_8.out).grow hG)
      have Iun_9 := Lib.hid ht; have Wun := Lib.hid hWt
      have HX9 := Lib.hid ((HX8.out).below hA.below (by simp; omega))
      have HF9 : Hid (∀ v ∈ [v0, v1, v2], hasF ns9 v = true) := Lib.hid (fun v hv => hG.has (HF8.out v hv))
      have HR9 := Lib.hid hR
      have HB9' := Lib.hid (HB8'.out.trans (hA.below.mono (by omega)))
      clear hR hA hG hM hWt ht
      clear c0 c1 c2
      have c0 : z9.cell? ⟨w.heap.size, 0, none⟩ = some (.int .i64 v0) := (HX9.out).cell (j := 0) rfl
      have c1 : z9.cell? ⟨w.heap.size + 1, 0, none⟩ = some (.int .i64 v1) := (HX9.out).cell (j := 1) rfl
      have c2 : z9.cell? ⟨w.heap.size + 2, 0, none⟩ = some (.int .i64 v2) := (HX9.out).cell (j := 2) rfl
      have HC10 := Lib.hid (unblind_ok B b ns9 bs wr_ z9 HR9.out (HTB.out _ HB9'.out))
      go_wp2_with (go_at_call 18; refine HC10.out.mono ?_; rintro e z10 ⟨no, e10, ns10, rfl, hR, hA, hG, hWt, hM⟩; refine Hid.out ?_)
      refine Lib.hid ?_
      have hnw : ¬ wr_ = dr := fun q => by
        have := (Iwr__9.out).uniq (q ▸ Idr_9.out)
        simp at this
      obtain rfl := hM.2 (known2 Ibs_9.out.has Iwr__9.out.has) (fun sk m q => hnw ((blinds_iff Ibs_9.out Ibl_9.out).1 q).2.2)
      clear hnw
      have ht : True := trivial
      have hl10 : ns10.length ≤ 615 := by have := hG.2; omega
      have Idr_10 := Lib.hid ((Idr_9.out).grow hG)
      have Iwr__10 := Lib.hid ((Iwr__9.out).grow hG)
      have Ipk_10 := Lib.hid ((Ipk_9.out).grow hG)
      have Ipq_10 := Lib.hid ((Ipq_9.out).grow hG)
      have Isg_10 := Lib.hid ((Isg_9.out).grow hG)
      have Itg_10 := Lib.hid ((Itg_9.out).grow hG)
      have Ibl_10 := Lib.hid ((Ibl_9.out).grow hG)
      have Ibs_10 := Lib.hid ((Ibs_9.out).grow hG)
      have Iun_10 := Lib.hid ((Iun_9.out).grow hG)
      have Ino_10 := Lib.hid ht; have Wno := Lib.hid hWt
      have HX10 := Lib.hid ((HX9.out).below hA.below (by simp; omega))
      have HF10 : Hid (∀ v ∈ [v0, v1, v2], hasF ns10 v = true) := Lib.hid (fun v hv => hG.has (HF9.out v hv))
      have HR10 := Lib.hid hR
      have HB10' := Lib.hid (HB9'.out.trans (hA.below.mono (by omega)))
      clear hR hA hG hM hWt ht
      clear c0 c1 c2
      have c0 : z10.cell? ⟨w.heap.size, 0, none⟩ = some (.int .i64 v0) := (HX10.out).cell (j := 0) rfl
      have c1 : z10.cell? ⟨w.heap.size + 1, 0, none⟩ = some (.int .i64 v1) := (HX10.out).cell (j := 1) rfl
      have c2 : z10.cell? ⟨w.heap.size + 2, 0, none⟩ = some (.int .i64 v2) := (HX10.out).cell (j := 2) rfl
      have hus : (un == sg) = true := by rw [beq_iff_eq]; exact HR10.out.inj Iun_10.out Isg_10.out
      have hV0 := verify_is HR10.out pk v1 sg true (by rw [verify_iff Ipk_10.out Isg_10.out]; simp) z10 (Below.refl _ _)
      have HC0 := Lib.hid (fun W hW => check_is HR10.out v0 v1 tg true (by rw [check_iff Itg_10.out]; simp) W hW)
      have HV0 := Lib.hid hV0
      clear hV0
      go_wp2_with (go_at_call 14; refine HV0.out.mono ?_; rintro e y1 ⟨rfl, hB⟩; refine Hid.out ?_)
      refine Lib.hid ?_
      have HBy := Lib.hid hB
      have HXy := Lib.hid ((HX10.out).below hB (by have := HR10.out.base_le; simp; omega))
      clear hB
      clear c0 c1 c2
      have c0 : y1.cell? ⟨w.heap.size, 0, none⟩ = some (.int .i64 v0) := (HXy.out).cell (j := 0) rfl
      have c1 : y1.cell? ⟨w.heap.size + 1, 0, none⟩ = some (.int .i64 v1) := (HXy.out).cell (j := 1) rfl
      have c2 : y1.cell? ⟨w.heap.size + 2, 0, none⟩ = some (.int .i64 v2) := (HXy.out).cell (j := 2) rfl
      have HC1 := Lib.hid (HC0.out y1 HBy.out)
      go_wp2_with (go_at_call 15; refine HC1.out.mono ?_; rintro e y2 ⟨rfl, hB⟩; refine Hid.out ?_)
      refine Lib.hid ?_
      have HBz := Lib.hid (HBy.out.trans (hB.mono HBy.out.size))
      have HXz := Lib.hid ((HXy.out).below hB (by have := HR10.out.base_le; have := HBy.out.size; simp; omega))
      have HRz := Lib.hid (HR10.out.below HBz.out)
      have HBf := Lib.hid (HB10'.out.trans (HBz.out.mono (by have := HR10.out.base_le; omega)))
      clear hB
      clear c0 c1 c2
      have c0 : y2.cell? ⟨w.heap.size, 0, none⟩ = some (.int .i64 v0) := (HXz.out).cell (j := 0) rfl
      have c1 : y2.cell? ⟨w.heap.size + 1, 0, none⟩ = some (.int .i64 v1) := (HXz.out).cell (j := 1) rfl
      have c2 : y2.cell? ⟨w.heap.size + 2, 0, none⟩ = some (.int .i64 v2) := (HXz.out).cell (j := 2) rfl
      have P1 : Hid (Verifies ns10 pq v1 sg ↔ v2 = v0) := Lib.hid (by rw [verify_iff Ipq_10.out Isg_10.out]; simp)
      have P2 : Hid (Verifies ns10 pk v2 sg ↔ v2 = v1) := Lib.hid (by rw [verify_iff Ipk_10.out Isg_10.out]; simp)
      have P3 : Hid (Checks ns10 v2 v1 tg ↔ v2 = v0) := Lib.hid (by rw [check_iff Itg_10.out]; simp)
      have P4 : Hid (¬ Verifies ns10 pk v1 bs) := Lib.hid (by rw [verify_iff Ipk_10.out Ibs_10.out]; exact fun q => part_lt HR10.out Ibl_10.out (by simp [ofN]) q.2.symm)
      have V4 := Lib.hid (verify_is HRz.out pk v1 bs false (by simp [P4.out]))
      obtain ⟨r1, hr1⟩ : ∃ r1 : Bool, r1 = decide (v2 = v0) := ⟨_, rfl⟩
      obtain ⟨r2, hr2⟩ : ∃ r2 : Bool, r2 = decide (v2 = v1) := ⟨_, rfl⟩
      have V1 := Lib.hid (verify_is HRz.out pq v1 sg r1 (by rw [P1.out, hr1]; simp))
      have V2 := Lib.hid (verify_is HRz.out pk v2 sg r2 (by rw [P2.out, hr2]; simp))
      have V3 := Lib.hid (check_is HRz.out v2 v1 tg r1 (by rw [P3.out, hr1]; simp))
      have u1 : (v2 == v0) = r1 := by rw [hr1]; cases h : v2 == v0 <;> simp_all
      have u2 : (v2 == v1) = r2 := by rw [hr2]; cases h : v2 == v1 <;> simp_all
      have hb0 : Below y2.heap.size y2 y2 := Below.refl _ _
      have HX3 := HXz
      have hpz : w.heap.size + 3 ≤ y2.heap.size := by have := HR10.out.base_le; have := HBz.out.size; omega
      clear hr1 hr2
      cases r1 <;> cases r2
      all_goals
        go_wp2_with fail
        go_region_held3 (fun w' => w'.cell? ⟨w.heap.size, 0, none⟩ = some (.int .i64 v0) ∧ w'.cell? ⟨w.heap.size + 1, 0, none⟩ = some (.int .i64 v1) ∧ w'.cell? ⟨w.heap.size + 2, 0, none⟩ = some (.int .i64 v2)) (first | exact ⟨c0, c1, c2⟩ | exact ⟨(hb1.cell (p := ⟨w.heap.size, 0, none⟩) (by show w.heap.size < _; omega)).trans c0, (hb1.cell (p := ⟨w.heap.size + 1, 0, none⟩) (by show w.heap.size + 1 < _; omega)).trans c1, (hb1.cell (p := ⟨w.heap.size + 2, 0, none⟩) (by show w.heap.size + 2 < _; omega)).trans c2⟩ | exact ⟨(hb2.cell (p := ⟨w.heap.size, 0, none⟩) (by show w.heap.size < _; omega)).trans c0, (hb2.cell (p := ⟨w.heap.size + 1, 0, none⟩) (by show w.heap.size + 1 < _; omega)).trans c1, (hb2.cell (p := ⟨w.heap.size + 2, 0, none⟩) (by show w.heap.size + 2 < _; omega)).trans c2⟩ | exact ⟨(hb3.cell (p := ⟨w.heap.size, 0, none⟩) (by show w.heap.size < _; omega)).trans c0, (hb3.cell (p := ⟨w.heap.size + 1, 0, none⟩) (by show w.heap.size + 1 < _; omega)).trans c1, (hb3.cell (p := ⟨w.heap.size + 2, 0, none⟩) (by show w.heap.size + 2 < _; omega)).trans c2⟩ | exact ⟨(hb4.cell (p := ⟨w.heap.size, 0, none⟩) (by show w.heap.size < _; omega)).trans c0, (hb4.cell (p := ⟨w.heap.size + 1, 0, none⟩) (by show w.heap.size + 1 < _; omega)).trans c1, (hb4.cell (p := ⟨w.heap.size + 2, 0, none⟩) (by show w.heap.size + 2 < _; omega)).trans c2⟩) (first
          | (go_at_call 14; have _t := hb3; refine (V4.out _ hb3).mono ?_; rintro e t4 ⟨rfl, hB⟩; have hb4 : Below y2.heap.size y2 t4 := hb3.trans (hB.mono hb3.size); clear hB)
          | (go_at_call 15; have _t := hb2; refine (V3.out _ hb2).mono ?_; rintro e t3 ⟨rfl, hB⟩; have hb3 : Below y2.heap.size y2 t3 := hb2.trans (hB.mono hb2.size); clear hB)
          | (go_at_call 14; have _t := hb1; refine (V2.out _ hb1).mono ?_; rintro e t2 ⟨rfl, hB⟩; have hb2 : Below y2.heap.size y2 t2 := hb1.trans (hB.mono hb1.size); clear hB)
          | (go_at_call 14; refine (V1.out _ (by first | exact hb0 | exact hb0.drew | exact below_drewN hb0 _)).mono ?_; rintro e t1 ⟨rfl, hB⟩; have hb1 : Below y2.heap.size y2 t1 := Below.trans (by first | exact hb0 | exact hb0.drew | exact below_drewN hb0 _) (hB.mono (by first | exact Nat.le_refl _ | exact hb0.size)); clear hB))
        have hbf : Below w.heap.size w t4 := HBf.out.trans (hb4.mono (by omega))
        clear hb1 hb2 hb3 hb4 c0 c1 c2
        go_wp2_with fail
        go_ret
        exact ⟨rfl, hbf⟩
end Go.Proofs.YthbfaledmoobjaaDoor
