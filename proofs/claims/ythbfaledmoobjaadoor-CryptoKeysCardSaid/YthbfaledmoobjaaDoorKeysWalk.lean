/- The walk of the law CryptoKeys. -/
import Derived.Test.YthbfaledmoobjaaDoorLawBase
namespace Go.Proofs.YthbfaledmoobjaaDoor
open Go.RowKit

set_option maxRecDepth 100000 in
set_option maxHeartbeats 8000000 in
theorem keysWalk (A : Option Addr) (n c : Nat) (l : List OpN) (x y z u : Int) (w : World) (h : Os w A n c l) (hw : Hid (∀ o ∈ l, OWf o)) (_hx : W64 x) (_hy : W64 y) (_hz : W64 z) (_hu : W64 u) (hT : Tb w.heap.size w) :
    Calls Tryd.prog 5 #[.slice A n c, .int .i64 x, .int .i64 y, .int .i64 z, .int .i64 u] w fun e w' => e = .returned (.bool true) ∧ Below w.heap.size w w' := by
  obtain ⟨W0, hW0⟩ : ∃ W0, ((((w.alloc (.cells #[.int .i64 x] 3)).alloc (.cells #[.int .i64 y] 3)).alloc (.cells #[.int .i64 z] 3)).alloc (.cells #[.int .i64 u] 3)) = W0 := ⟨_, rfl⟩
  have hB0 : Below w.heap.size w W0 := by rw [← hW0]; exact ((((Below.refl _ w).alloc (by simp) _).alloc (by simp; try omega) _).alloc (by simp; try omega) _).alloc (by simp; try omega) _
  have hbx0 : Boxes W0 w.heap.size [x, y, z, u] := by
    rw [← hW0]
    exact boxes4 w x y z u
  have hsz0 : W0.heap.size = w.heap.size + 4 := by rw [← hW0]; simp
  have HLV := Lib.hid (live_ok W0 (hT.here hB0))
  have HO := Lib.hid h
  have HT := Lib.hid hT
  have HW0 := Lib.hid hW0; have HB0 := Lib.hid hB0; have HBX0 := Lib.hid hbx0; have HSZ0 := Lib.hid hsz0
  clear h hT hW0 hB0 hbx0 hsz0
  go_enter Tryd.func5, Tryd.ntmps5
  go_wp2_with (go_at_call 8; rw [HW0.out]; refine HLV.out.mono ?_; rintro e w1 ⟨rfl, hB1⟩; refine Hid.out ?_)
  refine Lib.hid ?_
  have hB1w := HB0.out.trans (hB1.mono (by have := HSZ0.out; omega))
  have HF := Lib.hid (few_ok A n c l w1 ((HO.out).below hB1w))
  have HBX1 := Lib.hid ((HBX0.out).below hB1 (by have := HSZ0.out; simp; omega))
  have HS1 := Lib.hid hB1.size
  obtain ⟨f, hf⟩ : ∃ f, decide (Few l) = f := ⟨_, rfl⟩
  rw [hf] at HF
  have HFE := Lib.hid hf
  have HB1 := Lib.hid hB1w
  clear hB1 hB1w hf
  go_wp2_with (go_at_call 9; refine HF.out.mono ?_; rintro e w2 ⟨rfl, hB2⟩; refine Hid.out ?_)
  refine Lib.hid ?_
  have HBX2 := Lib.hid ((HBX1.out).below hB2 (by have := HSZ0.out; have := HS1.out; simp; omega))
  have hs2 : w.heap.size + 4 ≤ w2.heap.size := by have := hB2.size; have := HSZ0.out; have := HS1.out; omega
  have HB2 := Lib.hid (HB1.out.trans (hB2.mono (by have := HSZ0.out; have := HS1.out; omega)))
  clear hB2
  cases f
  · go_wp2_with fail
    go_ret
    exact ⟨rfl, HB2.out⟩
  have HG := Lib.hid (grown_ok A n c l w2 ((HO.out).below HB2.out) (of_decide_eq_true HFE.out) hw (HT.out.here HB2.out))
  obtain ⟨B, hB⟩ : ∃ B, w2.heap.size = B := ⟨_, rfl⟩
  have HBB := Lib.hid hB
  rw [hB] at hs2
  clear hB
  go_wp2_with (go_at_call 10; refine HG.out.mono ?_; rintro e w3 ⟨b, O, oc, outs, ns, rfl, hR3, hB3, hl3, hO3, hN3, ho5, hou⟩; refine Hid.out ?_)
  refine Lib.hid ?_
  have HBX3 := Lib.hid ((HBX2.out).below hB3 (by rw [HBB.out]; simp; omega))
  rw [HBB.out] at hR3 hB3 hN3
  have HB3 := Lib.hid (HB2.out.trans (hB3.mono (by omega)))
  have hs3 : B ≤ w3.heap.size := hR3.base_le
  have hpos := outs_pos hou ho5
  have HR3 := Lib.hid hR3
  have HL3 := Lib.hid (len_ok _ b ns w3 hR3)
  have HO3 := Lib.hid hO3; have HN3 := Lib.hid hN3; have HO5 := Lib.hid ho5; have HOU := Lib.hid hou
  clear hB3 hR3 hO3 hN3 ho5 hou
  go_wp2_with (go_at_call 11; refine HL3.out.mono ?_; rintro e w' ⟨rfl, rfl⟩; refine Hid.out ?_)
  refine Lib.hid ?_
  obtain ⟨m, hm⟩ : ∃ m : Int, (ns.length : Int) = m := ⟨_, rfl⟩
  have HM := Lib.hid hm
  rw [hm]
  have hm0 : 0 < m := by omega
  have hm9 : m ≤ 605 := by omega
  clear hm
  have t1 : decide (0 < m) = true := decide_eq_true hm0
  obtain ⟨g, hg⟩ : ∃ g, w3.heap.size = g := ⟨_, rfl⟩
  have HGE := Lib.hid hg
  rw [hg] at hs3
  clear hg
  go_wp2_with fail
  rw [HGE.out]
  go_loopw [43] (fun i wz => ∃ k : Nat, k ≤ 4 ∧ i = .int .i64 (k : Int) ∧ Hid (Boxes wz w.heap.size (nrm m [x, y, z, u] k)) ∧ Hid (AR wz B b ns) ∧ Hid (wz.heap[g]? = some (.cells #[.pointer (some ⟨w.heap.size, 0, none⟩), .pointer (some ⟨w.heap.size + 1, 0, none⟩), .pointer (some ⟨w.heap.size + 2, 0, none⟩), .pointer (some ⟨w.heap.size + 3, 0, none⟩)] 36 (0, 0))) ∧ Hid (Below w.heap.size w wz) ∧ Hid (Sl wz O 5 oc (iv outs) ∧ NumsB B wz O outs)) (fun i _ => 4 - (intOf i).toNat)
  case atStart =>
    refine ⟨0, by omega, rfl, Lib.hid ?_, Lib.hid ((HR3.out).alloc _), Lib.hid (by rw [← HGE.out]; exact heap_alloc_new _ _), Lib.hid ((HB3.out).alloc (by have := HGE.out; omega) _), Lib.hid ⟨HO3.out.alloc _, ⟨HN3.out.1.keep (fun q hq => Below.heap_alloc _ _ _ hq), HN3.out.2⟩⟩⟩
    exact (HBX3.out).below (B := g) ((Below.refl _ w3).alloc (by rw [HGE.out]; exact Nat.le_refl _) _) (by simp; omega)
  case round =>
    obtain ⟨k, hk, rfl, HX, HR, HP, HBW, HOO⟩ := hrel
    by_cases hlt : k < 4
    · have hk' : k = 0 ∨ k = 1 ∨ k = 2 ∨ k = 3 := by omega
      clear hlt hk
      rcases hk' with rfl | rfl | rfl | rfl
      · have c0 : wr.cell? ⟨w.heap.size, 0, none⟩ = some (.int .i64 x) := (HX.out).cell (j := 0) rfl
        have y0 : wr.frozen? ⟨w.heap.size, 0, none⟩ = false := (HX.out).frz (j := 0) rfl
        have d0 : wr.cell? ⟨g, 0, none⟩ = some (.pointer (some ⟨w.heap.size, 0, none⟩)) := cell_of HP.out 0
        have hq := tmod_lt (x := x) hm0
        have hX2 := (HX.out).set (j := 0) (by simp [nrm]) (nf m x)
        have hR2 := (HR.out).setb (a := ⟨w.heap.size, 0, none⟩) (by show w.heap.size < B; omega) (.int .i64 (nf m x))
        have hP2 : (wr.setCell ⟨w.heap.size, 0, none⟩ (.int .i64 (nf m x))).heap[g]? = _ := (heap_setCell_other _ _ _ _ (by show g ≠ w.heap.size; omega)).trans HP.out
        have hBW2 := (HBW.out).setCell (p := ⟨w.heap.size, 0, none⟩) (by show w.heap.size ≤ w.heap.size; omega) (.int .i64 (nf m x))
        have hOO2 := sl_setb HOO.out.1 HOO.out.2 (a := ⟨w.heap.size, 0, none⟩) (by show w.heap.size < B; omega) (.int .i64 (nf m x))
        have HX2 := Lib.hid hX2; have HR2 := Lib.hid hR2; have HP2 := Lib.hid hP2; have HBW2 := Lib.hid hBW2; have HOO2 := Lib.hid hOO2
        clear hX2 hR2 hP2 hBW2 hOO2
        go_wp2_with fail
        go_roundw
        case rel => exact ⟨1, by omega, rfl, HX2, HR2, HP2, HBW2, HOO2⟩
        case measure => simp [intOf]; try decide
      · have c0 : wr.cell? ⟨w.heap.size + 1, 0, none⟩ = some (.int .i64 y) := (HX.out).cell (j := 1) rfl
        have y0 : wr.frozen? ⟨w.heap.size + 1, 0, none⟩ = false := (HX.out).frz (j := 1) rfl
        have d0 : wr.cell? ⟨g, 1, none⟩ = some (.pointer (some ⟨w.heap.size + 1, 0, none⟩)) := cell_of HP.out 1
        have hq := tmod_lt (x := y) hm0
        have hX2 := (HX.out).set (j := 1) (by simp [nrm]) (nf m y)
        have hR2 := (HR.out).setb (a := ⟨w.heap.size + 1, 0, none⟩) (by show w.heap.size + 1 < B; omega) (.int .i64 (nf m y))
        have hP2 : (wr.setCell ⟨w.heap.size + 1, 0, none⟩ (.int .i64 (nf m y))).heap[g]? = _ := (heap_setCell_other _ _ _ _ (by show g ≠ w.heap.size + 1; omega)).trans HP.out
        have hBW2 := (HBW.out).setCell (p := ⟨w.heap.size + 1, 0, none⟩) (by show w.heap.size ≤ w.heap.size + 1; omega) (.int .i64 (nf m y))
        have hOO2 := sl_setb HOO.out.1 HOO.out.2 (a := ⟨w.heap.size + 1, 0, none⟩) (by show w.heap.size + 1 < B; omega) (.int .i64 (nf m y))
        have HX2 := Lib.hid hX2; have HR2 := Lib.hid hR2; have HP2 := Lib.hid hP2; have HBW2 := Lib.hid hBW2; have HOO2 := Lib.hid hOO2
        clear hX2 hR2 hP2 hBW2 hOO2
        go_wp2_with fail
        go_roundw
        case rel => exact ⟨2, by omega, rfl, HX2, HR2, HP2, HBW2, HOO2⟩
        case measure => simp [intOf]; try decide
      · have c0 : wr.cell? ⟨w.heap.size + 2, 0, none⟩ = some (.int .i64 z) := (HX.out).cell (j := 2) rfl
        have y0 : wr.frozen? ⟨w.heap.size + 2, 0, none⟩ = false := (HX.out).frz (j := 2) rfl
        have d0 : wr.cell? ⟨g, 2, none⟩ = some (.pointer (some ⟨w.heap.size + 2, 0, none⟩)) := cell_of HP.out 2
        have hq := tmod_lt (x := z) hm0
        have hX2 := (HX.out).set (j := 2) (by simp [nrm]) (nf m z)
        have hR2 := (HR.out).setb (a := ⟨w.heap.size + 2, 0, none⟩) (by show w.heap.size + 2 < B; omega) (.int .i64 (nf m z))
        have hP2 : (wr.setCell ⟨w.heap.size + 2, 0, none⟩ (.int .i64 (nf m z))).heap[g]? = _ := (heap_setCell_other _ _ _ _ (by show g ≠ w.heap.size + 2; omega)).trans HP.out
        have hBW2 := (HBW.out).setCell (p := ⟨w.heap.size + 2, 0, none⟩) (by show w.heap.size ≤ w.heap.size + 2; omega) (.int .i64 (nf m z))
        have hOO2 := sl_setb HOO.out.1 HOO.out.2 (a := ⟨w.heap.size + 2, 0, none⟩) (by show w.heap.size + 2 < B; omega) (.int .i64 (nf m z))
        have HX2 := Lib.hid hX2; have HR2 := Lib.hid hR2; have HP2 := Lib.hid hP2; have HBW2 := Lib.hid hBW2; have HOO2 := Lib.hid hOO2
        clear hX2 hR2 hP2 hBW2 hOO2
        go_wp2_with fail
        go_roundw
        case rel => exact ⟨3, by omega, rfl, HX2, HR2, HP2, HBW2, HOO2⟩
        case measure => simp [intOf]; try decide
      · have c0 : wr.cell? ⟨w.heap.size + 3, 0, none⟩ = some (.int .i64 u) := (HX.out).cell (j := 3) rfl
        have y0 : wr.frozen? ⟨w.heap.size + 3, 0, none⟩ = false := (HX.out).frz (j := 3) rfl
        have d0 : wr.cell? ⟨g, 3, none⟩ = some (.pointer (some ⟨w.heap.size + 3, 0, none⟩)) := cell_of HP.out 3
        have hq := tmod_lt (x := u) hm0
        have hX2 := (HX.out).set (j := 3) (by simp [nrm]) (nf m u)
        have hR2 := (HR.out).setb (a := ⟨w.heap.size + 3, 0, none⟩) (by show w.heap.size + 3 < B; omega) (.int .i64 (nf m u))
        have hP2 : (wr.setCell ⟨w.heap.size + 3, 0, none⟩ (.int .i64 (nf m u))).heap[g]? = _ := (heap_setCell_other _ _ _ _ (by show g ≠ w.heap.size + 3; omega)).trans HP.out
        have hBW2 := (HBW.out).setCell (p := ⟨w.heap.size + 3, 0, none⟩) (by show w.heap.size ≤ w.heap.size + 3; omega) (.int .i64 (nf m u))
        have hOO2 := sl_setb HOO.out.1 HOO.out.2 (a := ⟨w.heap.size + 3, 0, none⟩) (by show w.heap.size + 3 < B; omega) (.int .i64 (nf m u))
        have HX2 := Lib.hid hX2; have HR2 := Lib.hid hR2; have HP2 := Lib.hid hP2; have HBW2 := Lib.hid hBW2; have HOO2 := Lib.hid hOO2
        clear hX2 hR2 hP2 hBW2 hOO2
        go_wp2_with fail
        go_roundw
        case rel => exact ⟨4, by omega, rfl, HX2, HR2, HP2, HBW2, HOO2⟩
        case measure => simp [intOf]; try decide
    · obtain rfl : k = 4 := by omega
      clear hlt hk
      obtain ⟨v0, hv0⟩ : ∃ v, nf m x = v := ⟨_, rfl⟩
      obtain ⟨v1, hv1⟩ : ∃ v, nf m y = v := ⟨_, rfl⟩
      obtain ⟨v2, hv2⟩ : ∃ v, nf m z = v := ⟨_, rfl⟩
      obtain ⟨v3, hv3⟩ : ∃ v, nf m u = v := ⟨_, rfl⟩
      have HX0 : Hid (Boxes wr w.heap.size [v0, v1, v2, v3]) := Lib.hid (by rw [← hv0, ← hv1, ← hv2, ← hv3]; exact HX.out)
      have HH : Hid (∀ v ∈ [v0, v1, v2, v3], W64 v) := Lib.hid (by
        rw [← hv0, ← hv1, ← hv2, ← hv3]
        intro v hv
        simp at hv
        rcases hv with rfl | rfl | rfl | rfl <;> (rw [← HM.out]; exact nf_w64 hpos hl3 _))
      have HF0 : Hid (∀ v ∈ [v0, v1, v2, v3], hasF ns v = true) := Lib.hid (by
        rw [← hv0, ← hv1, ← hv2, ← hv3]
        intro v hv
        simp at hv
        rcases hv with rfl | rfl | rfl | rfl <;> (rw [← HM.out]; exact nf_has hpos _))
      have HTB : Hid (∀ W, Below w.heap.size w W → Tb B W) := Lib.hid (fun W hW => (HT.out.on hW).mono (by omega))
      have HR0 := HR; have HB0' := HBW
      have hl0 : ns.length ≤ 605 := hl3
      clear hv0 hv1 hv2 hv3 hm0 hm9 t1
      have c0 : wr.cell? ⟨w.heap.size, 0, none⟩ = some (.int .i64 v0) := (HX0.out).cell (j := 0) rfl
      have c1 : wr.cell? ⟨w.heap.size + 1, 0, none⟩ = some (.int .i64 v1) := (HX0.out).cell (j := 1) rfl
      have c2 : wr.cell? ⟨w.heap.size + 2, 0, none⟩ = some (.int .i64 v2) := (HX0.out).cell (j := 2) rfl
      have c3 : wr.cell? ⟨w.heap.size + 3, 0, none⟩ = some (.int .i64 v3) := (HX0.out).cell (j := 3) rfl
      have HC1 := Lib.hid (fresh_ok B b ns 999 wr HR0.out (by unfold W64; omega) (HTB.out _ HB0'.out))
      go_wp2_with (go_at_call 20; refine HC1.out.mono ?_; rintro e z1 hP; obtain ⟨dr, e1, ns1, rfl, hR, hA, hG, hWt, hM⟩ := hP.gr; refine Hid.out ?_)
      refine Lib.hid ?_
      obtain ⟨rfl, ht⟩ := hM.isT (may_atom (n := 999) (by omega)) (by omega)
      have hl1 : ns1.length ≤ 606 := by have := hG.2; omega
      have Idr_1 := Lib.hid ht; have Wdr := Lib.hid hWt
      have HX1 := Lib.hid ((HX0.out).below hA.below (by simp; omega))
      have HF1 : Hid (∀ v ∈ [v0, v1, v2, v3], hasF ns1 v = true) := Lib.hid (fun v hv => hG.has (HF0.out v hv))
      have HR1 := Lib.hid hR
      have HB1' := Lib.hid (HB0'.out.trans (hA.below.mono (by omega)))
      clear hR hA hG hM hWt ht hP
      clear c0 c1 c2 c3
      have c0 : z1.cell? ⟨w.heap.size, 0, none⟩ = some (.int .i64 v0) := (HX1.out).cell (j := 0) rfl
      have c1 : z1.cell? ⟨w.heap.size + 1, 0, none⟩ = some (.int .i64 v1) := (HX1.out).cell (j := 1) rfl
      have c2 : z1.cell? ⟨w.heap.size + 2, 0, none⟩ = some (.int .i64 v2) := (HX1.out).cell (j := 2) rfl
      have c3 : z1.cell? ⟨w.heap.size + 3, 0, none⟩ = some (.int .i64 v3) := (HX1.out).cell (j := 3) rfl
      have HC2 := Lib.hid (public_ok B b ns1 v0 z1 HR1.out (HH.out v0 (by simp)) (HTB.out _ HB1'.out))
      go_wp2_with (go_at_call 19; refine HC2.out.mono ?_; rintro e z2 hP; obtain ⟨pk, e2, ns2, rfl, hR, hA, hG, hWt, hM⟩ := hP.gr; refine Hid.out ?_)
      refine Lib.hid ?_
      obtain ⟨rfl, ht⟩ := hM.isT (may_of (by simp [arF]) (by simp) (known1 (HF1.out v0 (by simp))) (by decide)) (by omega)
      have hl2 : ns2.length ≤ 607 := by have := hG.2; omega
      have Idr_2 := Lib.hid ((Idr_1.out).grow hG)
      have Ipk_2 := Lib.hid ht; have Wpk := Lib.hid hWt
      have HX2 := Lib.hid ((HX1.out).below hA.below (by simp; omega))
      have HF2 : Hid (∀ v ∈ [v0, v1, v2, v3], hasF ns2 v = true) := Lib.hid (fun v hv => hG.has (HF1.out v hv))
      have HR2 := Lib.hid hR
      have HB2' := Lib.hid (HB1'.out.trans (hA.below.mono (by omega)))
      clear hR hA hG hM hWt ht hP
      clear c0 c1 c2 c3
      have c0 : z2.cell? ⟨w.heap.size, 0, none⟩ = some (.int .i64 v0) := (HX2.out).cell (j := 0) rfl
      have c1 : z2.cell? ⟨w.heap.size + 1, 0, none⟩ = some (.int .i64 v1) := (HX2.out).cell (j := 1) rfl
      have c2 : z2.cell? ⟨w.heap.size + 2, 0, none⟩ = some (.int .i64 v2) := (HX2.out).cell (j := 2) rfl
      have c3 : z2.cell? ⟨w.heap.size + 3, 0, none⟩ = some (.int .i64 v3) := (HX2.out).cell (j := 3) rfl
      have HC3 := Lib.hid (seal_ok B b ns2 pk v1 v2 dr z2 HR2.out Wpk.out (HH.out v1 (by simp)) (HH.out v2 (by simp)) Wdr.out (HTB.out _ HB2'.out))
      go_wp2_with (go_at_call 21; refine HC3.out.mono ?_; rintro e z3 ⟨xx, e3, ns3, rfl, hR, hA, hG, hWt, hM⟩; refine Hid.out ?_)
      refine Lib.hid ?_
      obtain ⟨rfl, ht⟩ := (hM _ Ipk_2.out.1 Ipk_2.out.2 rfl).isT (may_of (by simp [arF]) (by simp) (known4 Ipk_2.out.has (HF2.out v1 (by simp)) (HF2.out v2 (by simp)) Idr_2.out.has) (by decide)) (by omega)
      have hl3 : ns3.length ≤ 608 := by have := hG.2; omega
      have Idr_3 := Lib.hid ((Idr_2.out).grow hG)
      have Ipk_3 := Lib.hid ((Ipk_2.out).grow hG)
      have Ixx_3 := Lib.hid ht; have Wxx := Lib.hid hWt
      have HX3 := Lib.hid ((HX2.out).below hA.below (by simp; omega))
      have HF3 : Hid (∀ v ∈ [v0, v1, v2, v3], hasF ns3 v = true) := Lib.hid (fun v hv => hG.has (HF2.out v hv))
      have HR3 := Lib.hid hR
      have HB3' := Lib.hid (HB2'.out.trans (hA.below.mono (by omega)))
      clear hR hA hG hM hWt ht
      clear c0 c1 c2 c3
      have c0 : z3.cell? ⟨w.heap.size, 0, none⟩ = some (.int .i64 v0) := (HX3.out).cell (j := 0) rfl
      have c1 : z3.cell? ⟨w.heap.size + 1, 0, none⟩ = some (.int .i64 v1) := (HX3.out).cell (j := 1) rfl
      have c2 : z3.cell? ⟨w.heap.size + 2, 0, none⟩ = some (.int .i64 v2) := (HX3.out).cell (j := 2) rfl
      have c3 : z3.cell? ⟨w.heap.size + 3, 0, none⟩ = some (.int .i64 v3) := (HX3.out).cell (j := 3) rfl
      have HC4 := Lib.hid (lock_ok B b ns3 v0 dr v1 v2 z3 HR3.out (HH.out v0 (by simp)) Wdr.out (HH.out v1 (by simp)) (HH.out v2 (by simp)) (HTB.out _ HB3'.out))
      go_wp2_with (go_at_call 22; refine HC4.out.mono ?_; rintro e z4 hP; obtain ⟨yy, e4, ns4, rfl, hR, hA, hG, hWt, hM⟩ := hP.gr; refine Hid.out ?_)
      refine Lib.hid ?_
      obtain ⟨rfl, ht⟩ := hM.isT (may_of (by simp [arF]) (by simp) (known4 (HF3.out v0 (by simp)) Idr_3.out.has (HF3.out v1 (by simp)) (HF3.out v2 (by simp))) (by decide)) (by omega)
      have hl4 : ns4.length ≤ 609 := by have := hG.2; omega
      have Idr_4 := Lib.hid ((Idr_3.out).grow hG)
      have Ipk_4 := Lib.hid ((Ipk_3.out).grow hG)
      have Ixx_4 := Lib.hid ((Ixx_3.out).grow hG)
      have Iyy_4 := Lib.hid ht; have Wyy := Lib.hid hWt
      have HX4 := Lib.hid ((HX3.out).below hA.below (by simp; omega))
      have HF4 : Hid (∀ v ∈ [v0, v1, v2, v3], hasF ns4 v = true) := Lib.hid (fun v hv => hG.has (HF3.out v hv))
      have HR4 := Lib.hid hR
      have HB4' := Lib.hid (HB3'.out.trans (hA.below.mono (by omega)))
      clear hR hA hG hM hWt ht hP
      clear c0 c1 c2 c3
      have c0 : z4.cell? ⟨w.heap.size, 0, none⟩ = some (.int .i64 v0) := (HX4.out).cell (j := 0) rfl
      have c1 : z4.cell? ⟨w.heap.size + 1, 0, none⟩ = some (.int .i64 v1) := (HX4.out).cell (j := 1) rfl
      have c2 : z4.cell? ⟨w.heap.size + 2, 0, none⟩ = some (.int .i64 v2) := (HX4.out).cell (j := 2) rfl
      have c3 : z4.cell? ⟨w.heap.size + 3, 0, none⟩ = some (.int .i64 v3) := (HX4.out).cell (j := 3) rfl
      have HC5 := Lib.hid (open_ok B b ns4 v0 v1 xx z4 HR4.out)
      go_wp2_with (go_at_call 12; refine HC5.out.mono ?_; rintro e z5 ⟨p1, e5, rfl, hB, hR⟩; refine Hid.out ?_)
      refine Lib.hid ?_
      have Q5 := Lib.hid (open_iff Ixx_4.out Ipk_4.out (HF4.out v0 (by simp)) (HF4.out v1 (by simp)) hR)
      have hbl := HR4.out.base_le
      have HX5 := Lib.hid ((HX4.out).below hB (by simp; omega))
      have HR5 := Lib.hid ((HR4.out).below hB)
      have HB5' := Lib.hid (HB4'.out.trans (hB.mono (by omega)))
      clear hB hR hbl
      clear c0 c1 c2 c3
      obtain ⟨he, hp⟩ := Q5.out.1 ⟨rfl, rfl⟩
      subst he
      have tp1 : (p1 != v2) = false := by rw [bne_eq_false_iff_eq]; exact hp
      clear hp
      have c0 : z5.cell? ⟨w.heap.size, 0, none⟩ = some (.int .i64 v0) := (HX5.out).cell (j := 0) rfl
      have c1 : z5.cell? ⟨w.heap.size + 1, 0, none⟩ = some (.int .i64 v1) := (HX5.out).cell (j := 1) rfl
      have c2 : z5.cell? ⟨w.heap.size + 2, 0, none⟩ = some (.int .i64 v2) := (HX5.out).cell (j := 2) rfl
      have c3 : z5.cell? ⟨w.heap.size + 3, 0, none⟩ = some (.int .i64 v3) := (HX5.out).cell (j := 3) rfl
      have HC6 := Lib.hid (unlock_ok B b ns4 v0 dr v1 yy z5 HR5.out)
      go_wp2_with (go_at_call 13; refine HC6.out.mono ?_; rintro e z6 ⟨p2, e6, rfl, hB, hR⟩; refine Hid.out ?_)
      refine Lib.hid ?_
      have Q6 := Lib.hid (unlock_iff Iyy_4.out (HF4.out v0 (by simp)) Idr_4.out.has (HF4.out v1 (by simp)) hR)
      have hbl := HR5.out.base_le
      have HX6 := Lib.hid ((HX5.out).below hB (by simp; omega))
      have HR6 := Lib.hid ((HR5.out).below hB)
      have HB6' := Lib.hid (HB5'.out.trans (hB.mono (by omega)))
      clear hB hR hbl
      clear c0 c1 c2 c3
      obtain ⟨he, hp⟩ := Q6.out.1 ⟨rfl, rfl, rfl⟩
      subst he
      have tp2 : (p2 != v2) = false := by rw [bne_eq_false_iff_eq]; exact hp
      clear hp
      have c0 : z6.cell? ⟨w.heap.size, 0, none⟩ = some (.int .i64 v0) := (HX6.out).cell (j := 0) rfl
      have c1 : z6.cell? ⟨w.heap.size + 1, 0, none⟩ = some (.int .i64 v1) := (HX6.out).cell (j := 1) rfl
      have c2 : z6.cell? ⟨w.heap.size + 2, 0, none⟩ = some (.int .i64 v2) := (HX6.out).cell (j := 2) rfl
      have c3 : z6.cell? ⟨w.heap.size + 3, 0, none⟩ = some (.int .i64 v3) := (HX6.out).cell (j := 3) rfl
      have HC7 := Lib.hid (open_ok B b ns4 v3 v1 xx z6 HR6.out)
      go_wp2_with (go_at_call 12; refine HC7.out.mono ?_; rintro e z7 ⟨p3, e7, rfl, hB, hR⟩; refine Hid.out ?_)
      refine Lib.hid ?_
      have Q7 := Lib.hid (open_iff Ixx_4.out Ipk_4.out (HF4.out v3 (by simp)) (HF4.out v1 (by simp)) hR)
      have hbl := HR6.out.base_le
      have HX7 := Lib.hid ((HX6.out).below hB (by simp; omega))
      have HR7 := Lib.hid ((HR6.out).below hB)
      have HB7' := Lib.hid (HB6'.out.trans (hB.mono (by omega)))
      clear hB hR hbl
      clear c0 c1 c2 c3
      have c0 : z7.cell? ⟨w.heap.size, 0, none⟩ = some (.int .i64 v0) := (HX7.out).cell (j := 0) rfl
      have c1 : z7.cell? ⟨w.heap.size + 1, 0, none⟩ = some (.int .i64 v1) := (HX7.out).cell (j := 1) rfl
      have c2 : z7.cell? ⟨w.heap.size + 2, 0, none⟩ = some (.int .i64 v2) := (HX7.out).cell (j := 2) rfl
      have c3 : z7.cell? ⟨w.heap.size + 3, 0, none⟩ = some (.int .i64 v3) := (HX7.out).cell (j := 3) rfl
      have HC8 := Lib.hid (unlock_ok B b ns4 v3 dr v1 yy z7 HR7.out)
      go_wp2_with (go_at_call 13; refine HC8.out.mono ?_; rintro e z8 ⟨p4, e8, rfl, hB, hR⟩; refine Hid.out ?_)
      refine Lib.hid ?_
      have Q8 := Lib.hid (unlock_iff Iyy_4.out (HF4.out v3 (by simp)) Idr_4.out.has (HF4.out v1 (by simp)) hR)
      have hbl := HR7.out.base_le
      have HX8 := Lib.hid ((HX7.out).below hB (by simp; omega))
      have HR8 := Lib.hid ((HR7.out).below hB)
      have HB8' := Lib.hid (HB7'.out.trans (hB.mono (by omega)))
      clear hB hR hbl
      clear c0 c1 c2 c3
      have c0 : z8.cell? ⟨w.heap.size, 0, none⟩ = some (.int .i64 v0) := (HX8.out).cell (j := 0) rfl
      have c1 : z8.cell? ⟨w.heap.size + 1, 0, none⟩ = some (.int .i64 v1) := (HX8.out).cell (j := 1) rfl
      have c2 : z8.cell? ⟨w.heap.size + 2, 0, none⟩ = some (.int .i64 v2) := (HX8.out).cell (j := 2) rfl
      have c3 : z8.cell? ⟨w.heap.size + 3, 0, none⟩ = some (.int .i64 v3) := (HX8.out).cell (j := 3) rfl
      have HC9 := Lib.hid (open_ok B b ns4 v0 v3 xx z8 HR8.out)
      go_wp2_with (go_at_call 12; refine HC9.out.mono ?_; rintro e z9 ⟨p5, e9, rfl, hB, hR⟩; refine Hid.out ?_)
      refine Lib.hid ?_
      have Q9 := Lib.hid (open_iff Ixx_4.out Ipk_4.out (HF4.out v0 (by simp)) (HF4.out v3 (by simp)) hR)
      have hbl := HR8.out.base_le
      have HX9 := Lib.hid ((HX8.out).below hB (by simp; omega))
      have HR9 := Lib.hid ((HR8.out).below hB)
      have HB9' := Lib.hid (HB8'.out.trans (hB.mono (by omega)))
      clear hB hR hbl
      clear c0 c1 c2 c3
      have c0 : z9.cell? ⟨w.heap.size, 0, none⟩ = some (.int .i64 v0) := (HX9.out).cell (j := 0) rfl
      have c1 : z9.cell? ⟨w.heap.size + 1, 0, none⟩ = some (.int .i64 v1) := (HX9.out).cell (j := 1) rfl
      have c2 : z9.cell? ⟨w.heap.size + 2, 0, none⟩ = some (.int .i64 v2) := (HX9.out).cell (j := 2) rfl
      have c3 : z9.cell? ⟨w.heap.size + 3, 0, none⟩ = some (.int .i64 v3) := (HX9.out).cell (j := 3) rfl
      have HC10 := Lib.hid (unlock_ok B b ns4 v0 dr v3 yy z9 HR9.out)
      go_wp2_with (go_at_call 13; refine HC10.out.mono ?_; rintro e z10 ⟨p6, e10, rfl, hB, hR⟩; refine Hid.out ?_)
      refine Lib.hid ?_
      have Q10 := Lib.hid (unlock_iff Iyy_4.out (HF4.out v0 (by simp)) Idr_4.out.has (HF4.out v3 (by simp)) hR)
      have hbl := HR9.out.base_le
      have HX10 := Lib.hid ((HX9.out).below hB (by simp; omega))
      have HR10 := Lib.hid ((HR9.out).below hB)
      have HB10' := Lib.hid (HB9'.out.trans (hB.mono (by omega)))
      clear hB hR hbl
      clear c0 c1 c2 c3
      have c0 : z10.cell? ⟨w.heap.size, 0, none⟩ = some (.int .i64 v0) := (HX10.out).cell (j := 0) rfl
      have c1 : z10.cell? ⟨w.heap.size + 1, 0, none⟩ = some (.int .i64 v1) := (HX10.out).cell (j := 1) rfl
      have c2 : z10.cell? ⟨w.heap.size + 2, 0, none⟩ = some (.int .i64 v2) := (HX10.out).cell (j := 2) rfl
      have c3 : z10.cell? ⟨w.heap.size + 3, 0, none⟩ = some (.int .i64 v3) := (HX10.out).cell (j := 3) rfl
      by_cases h1 : v3 = v0
      · have u1 : (v3 == v0) = true := by rw [beq_iff_eq]; exact h1
        have r1 := (Q7.out.1 (by simp [h1])).1
        have r2 := (Q8.out.1 (by simp [h1])).1
        subst r1; subst r2
        by_cases h2 : v3 = v1
        · have u2 : (v3 == v1) = true := by rw [beq_iff_eq]; exact h2
          have r3 := (Q9.out.1 (by simp [h2])).1
          have r4 := (Q10.out.1 (by simp [h2])).1
          subst r3; subst r4
          clear h1 h2
          go_wp2_with fail
          go_ret
          exact ⟨rfl, HB10'.out⟩
        · have u2 : (v3 == v1) = false := by rw [beq_eq_false_iff_ne]; exact h2
          have r3 := Q9.out.2 (fun q => h2 q.2)
          have r4 := Q10.out.2 (fun q => h2 q.2.2)
          subst r3; subst r4
          clear h1 h2
          go_wp2_with fail
          go_ret
          exact ⟨rfl, HB10'.out⟩
      · have u1 : (v3 == v0) = false := by rw [beq_eq_false_iff_ne]; exact h1
        have r1 := Q7.out.2 (fun q => h1 q.1)
        have r2 := Q8.out.2 (fun q => h1 q.1)
        subst r1; subst r2
        by_cases h2 : v3 = v1
        · have u2 : (v3 == v1) = true := by rw [beq_iff_eq]; exact h2
          have r3 := (Q9.out.1 (by simp [h2])).1
          have r4 := (Q10.out.1 (by simp [h2])).1
          subst r3; subst r4
          clear h1 h2
          go_wp2_with fail
          go_ret
          exact ⟨rfl, HB10'.out⟩
        · have u2 : (v3 == v1) = false := by rw [beq_eq_false_iff_ne]; exact h2
          have r3 := Q9.out.2 (fun q => h2 q.2)
          have r4 := Q10.out.2 (fun q => h2 q.2.2)
          subst r3; subst r4
          clear h1 h2
          go_wp2_with fail
          go_ret
          exact ⟨rfl, HB10'.out⟩
end Go.Proofs.YthbfaledmoobjaaDoor
