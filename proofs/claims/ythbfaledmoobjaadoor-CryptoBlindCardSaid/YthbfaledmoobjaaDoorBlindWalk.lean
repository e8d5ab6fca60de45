/- The walk of the law CryptoBlind. -/
import Derived.Test.YthbfaledmoobjaaDoorLawBase2
import Derived.Deep.RegionHeld3
import Derived.BigQuiet
namespace Go.Proofs.YthbfaledmoobjaaDoor
open Go.RowKit

theorem len5 {l : List Int} (h : l.length = 5) : ∃ a b c d e, l = [a, b, c, d, e] := by
  match l, h with
  | [a, b, c, d, e], _ => exact ⟨a, b, c, d, e, rfl⟩
theorem IsT.w64 {ns : List NN} {t : Int} {x : NN} (h : IsT ns t x) (hl : ns.length ≤ 1000) : W64 t := by
  have := (List.getElem?_eq_some_iff.1 h.2).1
  have := h.1
  unfold W64; omega
set_option maxRecDepth 100000 in
set_option maxHeartbeats 80000000 in
theorem blindWalk (A : Option Addr) (n c : Nat) (l : List OpN) (x y z : Int) (w : World) (h : Os w A n c l) (hw : Hid (∀ o ∈ l, OWf o)) (_hx : W64 x) (_hy : W64 y) (_hz : W64 z) (hT : Tb w.heap.size w) :
    Calls Tryd.prog 4 #[.slice A n c, .int .i64 x, .int .i64 y, .int .i64 z] w fun e w' => e = .returned (.bool true) ∧ Below w.heap.size w w' := by
  obtain ⟨W0, hW0⟩ : ∃ W0, (((w.alloc (.cells #[.int .i64 x] 3)).alloc (.cells #[.int .i64 y] 3)).alloc (.cells #[.int .i64 z] 3)) = W0 := ⟨_, rfl⟩
  have hB0 : Below w.heap.size w W0 := by rw [← hW0]; exact (((Below.refl _ w).alloc (by simp) _).alloc (by simp; try omega) _).alloc (by simp; try omega) _
  have hbx0 : Boxes W0 w.heap.size [x, y, z] := by
    rw [← hW0]
    exact boxes3 w x y z
  have hsz0 : W0.heap.size = w.heap.size + 3 := by rw [← hW0]; simp
  have HLV := Lib.hid (live_ok W0 (hT.here hB0))
  have HO := Lib.hid h
  have HT := Lib.hid hT
  have HW0 := Lib.hid hW0; have HB0 := Lib.hid hB0; have HBX0 := Lib.hid hbx0; have HSZ0 := Lib.hid hsz0
  clear h hT hW0 hB0 hbx0 hsz0
  go_enter Tryd.func4, Tryd.ntmps4
  go_wp2_with (go_at_call 8; rw [HW0.out]; refine HLV.out.mono ?_; rintro e w1 ⟨rfl, hB1⟩; refine Hid.out ?_)
  refine Lib.hid ?_
  have hB1w := HB0.out.trans (hB1.mono (by have := HSZ0.out; omega))
  have HF := Lib.hid (few_ok A n c l w1 ((HO.out).below hB1w))
  have HBX1 := Lib.hid ((HBX0.out).below hB1 (by have := HSZ0.out; simp; omega))
  have HS1 := Lib.hid hB1.size
  obtain ⟨f, hf⟩ : ∃ f, decide (Few l) = f := ⟨_, rfl⟩
  rw [hf] at HF
  have HFE := Lib.hid hf
  have HB1 := Lib.hid hB1w
  clear hB1 hB1w hf
  go_wp2_with (go_at_call 9; refine HF.out.mono ?_; rintro e w2 ⟨rfl, hB2⟩; refine Hid.out ?_)
  refine Lib.hid ?_
  have HBX2 := Lib.hid ((HBX1.out).below hB2 (by have := HSZ0.out; have := HS1.out; simp; omega))
  have hs2 : w.heap.size + 3 ≤ w2.heap.size := by have := hB2.size; have := HSZ0.out; have := HS1.out; omega
  have HB2 := Lib.hid (HB1.out.trans (hB2.mono (by have := HSZ0.out; have := HS1.out; omega)))
  clear hB2
  cases f
  · go_wp2_with fail
    go_ret
    exact ⟨rfl, HB2.out⟩
  have HG := Lib.hid (grown_ok A n c l w2 ((HO.out).below HB2.out) (of_decide_eq_true HFE.out) hw (HT.out.here HB2.out))
  obtain ⟨B, hB⟩ : ∃ B, w2.heap.size = B := ⟨_, rfl⟩
  have HBB := Lib.hid hB
  rw [hB] at hs2
  clear hB
  go_wp2_with (go_at_call 10; refine HG.out.mono ?_; rintro e w3 ⟨b, O, oc, outs, ns, rfl, hR3, hB3, hl3, hO3, hN3, ho5, hou⟩; refine Hid.out ?_)
  refine Lib.hid ?_
  have HBX3 := Lib.hid ((HBX2.out).below hB3 (by rw [HBB.out]; simp; omega))
  rw [HBB.out] at hR3 hB3 hN3
  have HB3 := Lib.hid (HB2.out.trans (hB3.mono (by omega)))
  have hs3 : B ≤ w3.heap.size := hR3.base_le
  have hpos := outs_pos hou ho5
  have HR3 := Lib.hid hR3
  have HL3 := Lib.hid (len_ok _ b ns w3 hR3)
  have HO3 := Lib.hid hO3; have HN3 := Lib.hid hN3; have HO5 := Lib.hid ho5; have HOU := Lib.hid hou
  clear hB3 hR3 hO3 hN3 ho5 hou
  go_wp2_with (go_at_call 11; refine HL3.out.mono ?_; rintro e w' ⟨rfl, rfl⟩; refine Hid.out ?_)
  refine Lib.hid ?_
  obtain ⟨m, hm⟩ : ∃ m : Int, (ns.length : Int) = m := ⟨_, rfl⟩
  have HM := Lib.hid hm
  rw [hm]
  have hm0 : 0 < m := by omega
  have hm9 : m ≤ 605 := by omega
  clear hm
  have t1 : decide (0 < m) = true := decide_eq_true hm0
  obtain ⟨g, hg⟩ : ∃ g, w3.heap.size = g := ⟨_, rfl⟩
  have HGE := Lib.hid hg
  rw [hg] at hs3
  clear hg
  go_wp2_with fail
  rw [HGE.out]
  go_loopw [43] (fun i wz => ∃ k : Nat, k ≤ 3 ∧ i = .int .i64 (k : Int) ∧ Hid (Boxes wz w.heap.size (nrm m [x, y, z] k)) ∧ Hid (AR wz B b ns) ∧ Hid (wz.heap[g]? = some (.cells #[.pointer (some ⟨w.heap.size, 0, none⟩), .pointer (some ⟨w.heap.size + 1, 0, none⟩), .pointer (some ⟨w.heap.size + 2, 0, none⟩)] 36 (0, 0))) ∧ Hid (Below w.heap.size w wz) ∧ Hid (Sl wz O 5 oc (iv outs) ∧ NumsB B wz O outs)) (fun i _ => 3 - (intOf i).toNat)
  case atStart =>
    refine ⟨0, by omega, rfl, Lib.hid ?_, Lib.hid ((HR3.out).alloc _), Lib.hid (by rw [← HGE.out]; exact heap_alloc_new _ _), Lib.hid ((HB3.out).alloc (by have := HGE.out; omega) _), Lib.hid ⟨HO3.out.alloc _, ⟨HN3.out.1.keep (fun q hq => Below.heap_alloc _ _ _ hq), HN3.out.2⟩⟩⟩
    exact (HBX3.out).below (B := g) ((Below.refl _ w3).alloc (by rw [HGE.out]; exact Nat.le_refl _) _) (by simp; omega)
  case round =>
    obtain ⟨k, hk, rfl, HX, HR, HP, HBW, HOO⟩ := hrel
    by_cases hlt : k < 3
    · have hk' : k = 0 ∨ k = 1 ∨ k = 2 := by omega
      clear hlt hk
      rcases hk' with rfl | rfl | rfl
      · have c0 : wr.cell? ⟨w.heap.size, 0, none⟩ = some (.int .i64 x) := (HX.out).cell (j := 0) rfl
        have y0 : wr.frozen? ⟨w.heap.size, 0, none⟩ = false := (HX.out).frz (j := 0) rfl
        have d0 : wr.cell? ⟨g, 0, none⟩ = some (.pointer (some ⟨w.heap.size, 0, none⟩)) := cell_of HP.out 0
        have hq := tmod_lt (x := x) hm0
        have hX2 := (HX.out).set (j := 0) (by simp [nrm]) (nf m x)
        have hR2 := (HR.out).setb (a := ⟨w.heap.size, 0, none⟩) (by show w.heap.size < B; omega) (.int .i64 (nf m x))
        have hP2 : (wr.setCell ⟨w.heap.size, 0, none⟩ (.int .i64 (nf m x))).heap[g]? = _ := (heap_setCell_other _ _ _ _ (by show g ≠ w.heap.size; omega)).trans HP.out
        have hBW2 := (HBW.out).setCell (p := ⟨w.heap.size, 0, none⟩) (by show w.heap.size ≤ w.heap.size; omega) (.int .i64 (nf m x))
        have hOO2 := sl_setb HOO.out.1 HOO.out.2 (a := ⟨w.heap.size, 0, none⟩) (by show w.heap.size < B; omega) (.int .i64 (nf m x))
        have HX2 := Lib.hid hX2; have HR2 := Lib.hid hR2; have HP2 := Lib.hid hP2; have HBW2 := Lib.hid hBW2; have HOO2 := Lib.hid hOO2
        clear hX2 hR2 hP2 hBW2 hOO2
        go_wp2_with fail
        go_roundw
        case rel => exact ⟨1, by omega, rfl, HX2, HR2, HP2, HBW2, HOO2⟩
        case measure => simp [intOf]; try decide
      · have c0 : wr.cell? ⟨w.heap.size + 1, 0, none⟩ = some (.int .i64 y) := (HX.out).cell (j := 1) rfl
        have y0 : wr.frozen? ⟨w.heap.size + 1, 0, none⟩ = false := (HX.out).frz (j := 1) rfl
        have d0 : wr.cell? ⟨g, 1, none⟩ = some (.pointer (some ⟨w.heap.size + 1, 0, none⟩)) := cell_of HP.out 1
        have hq := tmod_lt (x := y) hm0
        have hX2 := (HX.out).set (j := 1) (by simp [nrm]) (nf m y)
        have hR2 := (HR.out).setb (a := ⟨w.heap.size + 1, 0, none⟩) (by show w.heap.size + 1 < B; omega) (.int .i64 (nf m y))
        have hP2 : (wr.setCell ⟨w.heap.size + 1, 0, none⟩ (.int .i64 (nf m y))).heap[g]? = _ := (heap_setCell_other _ _ _ _ (by show g ≠ w.heap.size + 1; omega)).trans HP.out
        have hBW2 := (HBW.out).setCell (p := ⟨w.heap.size + 1, 0, none⟩) (by show w.heap.size ≤ w.heap.size + 1; omega) (.int .i64 (nf m y))
        have hOO2 := sl_setb HOO.out.1 HOO.out.2 (a := ⟨w.heap.size + 1, 0, none⟩) (by show w.heap.size + 1 < B; omega) (.int .i64 (nf m y))
        have HX2 := Lib.hid hX2; have HR2 := Lib.hid hR2; have HP2 := Lib.hid hP2; have HBW2 := Lib.hid hBW2; have HOO2 := Lib.hid hOO2
        clear hX2 hR2 hP2 hBW2 hOO2
        go_wp2_with fail
        go_roundw
        case rel => exact ⟨2, by omega, rfl, HX2, HR2, HP2, HBW2, HOO2⟩
        case measure => simp [intOf]; try decide
      · have c0 : wr.cell? ⟨w.heap.size + 2, 0, none⟩ = some (.int .i64 z) := (HX.out).cell (j := 2) rfl
        have y0 : wr.frozen? ⟨w.heap.size + 2, 0, none⟩ = false := (HX.out).frz (j := 2) rfl
        have d0 : wr.cell? ⟨g, 2, none⟩ = some (.pointer (some ⟨w.heap.size + 2, 0, none⟩)) := cell_of HP.out 2
        have hq := tmod_lt (x := z) hm0
        have hX2 := (HX.out).set (j := 2) (by simp [nrm]) (nf m z)
        have hR2 := (HR.out).setb (a := ⟨w.heap.size + 2, 0, none⟩) (by show w.heap.size + 2 < B; omega) (.int .i64 (nf m z))
        have hP2 : (wr.setCell ⟨w.heap.size + 2, 0, none⟩ (.int .i64 (nf m z))).heap[g]? = _ := (heap_setCell_other _ _ _ _ (by show g ≠ w.heap.size + 2; omega)).trans HP.out
        have hBW2 := (HBW.out).setCell (p := ⟨w.heap.size + 2, 0, none⟩) (by show w.heap.size ≤ w.heap.size + 2; omega) (.int .i64 (nf m z))
        have hOO2 := sl_setb HOO.out.1 HOO.out.2 (a := ⟨w.heap.size + 2, 0, none⟩) (by show w.heap.size + 2 < B; omega) (.int .i64 (nf m z))
        have HX2 := Lib.hid hX2; have HR2 := Lib.hid hR2; have HP2 := Lib.hid hP2; have HBW2 := Lib.hid hBW2; have HOO2 := Lib.hid hOO2
        clear hX2 hR2 hP2 hBW2 hOO2
        go_wp2_with fail
        go_roundw
        case rel => exact ⟨3, by omega, rfl, HX2, HR2, HP2, HBW2, HOO2⟩
        case measure => simp [intOf]; try decide
    · obtain rfl : k = 3 := by omega
      clear hlt hk
      obtain ⟨v0, hv0⟩ : ∃ v, nf m x = v := ⟨_, rfl⟩
      obtain ⟨v1, hv1⟩ : ∃ v, nf m y = v := ⟨_, rfl⟩
      obtain ⟨v2, hv2⟩ : ∃ v, nf m z = v := ⟨_, rfl⟩
      have HX0 : Hid (Boxes wr w.heap.size [v0, v1, v2]) := Lib.hid (by rw [← hv0, ← hv1, ← hv2]; exact HX.out)
      have HH : Hid (∀ v ∈ [v0, v1, v2], W64 v) := Lib.hid (by
        rw [← hv0, ← hv1, ← hv2]
        intro v hv
        simp at hv
        rcases hv with rfl | rfl | rfl <;> (rw [← HM.out]; exact nf_w64 hpos hl3 _))
      have HF0 : Hid (∀ v ∈ [v0, v1, v2], hasF ns v = true) := Lib.hid (by
        rw [← hv0, ← hv1, ← hv2]
        intro v hv
        simp at hv
        rcases hv with rfl | rfl | rfl <;> (rw [← HM.out]; exact nf_has hpos _))
      have HTB : Hid (∀ W, Below w.heap.size w W → Tb B W) := Lib.hid (fun W hW => (HT.out.on hW).mono (by omega))
      have HR0 := HR; have HB0' := HBW
      have hl0 : ns.length ≤ 605 := hl3
      clear hv0 hv1 hv2 hm0 hm9 t1
      obtain ⟨t0, t1, t2, t3, t4, hou⟩ := len5 HO5.out
      subst hou
      obtain ⟨oa, rfl⟩ := sl_some HOO.out.1 (by simp)
      have It0 : Hid (IsT ns t0 (atomN 100)) := Lib.hid (HOU.out 0 t0 rfl)
      have It1 : Hid (IsT ns t1 (atomN 101)) := Lib.hid (HOU.out 1 t1 rfl)
      have Wt0 : Hid (W64 t0) := Lib.hid (It0.out.w64 (by omega))
      have Wt1 : Hid (W64 t1) := Lib.hid (It1.out.w64 (by omega))
      have HO0 := Lib.hid (And.intro HOO.out.1 HOO.out.2.1)
      have c0 : wr.cell? ⟨w.heap.size, 0, none⟩ = some (.int .i64 v0) := (HX0.out).cell (j := 0) rfl
      have c1 : wr.cell? ⟨w.heap.size + 1, 0, none⟩ = some (.int .i64 v1) := (HX0.out).cell (j := 1) rfl
      have c2 : wr.cell? ⟨w.heap.size + 2, 0, none⟩ = some (.int .i64 v2) := (HX0.out).cell (j := 2) rfl
      have o0 : wr.cell? oa = some (.int .i64 t0) := sl_c0 HO0.out.1 rfl
      have o1 : wr.cell? ⟨oa.block, oa.off + 1, none⟩ = some (.int .i64 t1) := sl_cs HO0.out.1 0 rfl
      have HC1 := Lib.hid (fun W (hW : Below wr.heap.size wr W) => (blind_ok B b ns v1 t0 W (HR0.out.below hW) (HH.out v1 (by simp)) Wt0.out (HTB.out _ (HB0'.out.trans (hW.mono (by have := HR0.out.base_le; omega))))).mono fun _ _ q => MkP.shift q (Af.of hW HR0.out.base_le))
      have hb0 : Below wr.heap.size wr wr := Below.refl _ _
      go_wp2_with fail
      go_region_held3 (fun w' => w'.cell? ⟨w.heap.size + 1, 0, none⟩ = some (.int .i64 v1) ∧ w'.cell? oa = some (.int .i64 t0)) (first | exact ⟨c1, o0⟩ | exact ⟨dd1, dd2⟩) (first
          | (go_at_call 16; refine (HC1.out _ (by first | exact hb0 | exact hb0.drew | exact below_drewN hb0 _)).mono ?_; rintro e z1 hP; obtain ⟨tx, e1, ns1, rfl, hR, hA, hG, hWt, hM⟩ := hP.gr; have dd1 : z1.cell? ⟨w.heap.size + 1, 0, none⟩ = some (.int .i64 v1) := (((HX0.out).below hA.below (by simp; omega)).cell (j := 1) rfl); have dd2 : z1.cell? oa = some (.int .i64 t0) := sl_c0 (sl_nums HO0.out.1 HO0.out.2 hA.nums) rfl))
      obtain ⟨rfl, ht⟩ := hM.isT (may_of (by simp [arF]) (by simp) (known2 (HF0.out v1 (by simp)) It0.out.has) (by decide)) (by omega)
      have hl1 : ns1.length ≤ 606 := by have := hG.2; omega
      have It0_1 := Lib.hid ((It0.out).grow hG)
      have It1_1 := Lib.hid ((It1.out).grow hG)
      have Itx_1 := Lib.hid ht; have Wtx := Lib.hid hWt
      have HX1 := Lib.hid ((HX0.out).below hA.below (by simp; omega))
      have HF1 : Hid (∀ v ∈ [v0, v1, v2], hasF ns1 v = true) := Lib.hid (fun v hv => hG.has (HF0.out v hv))
      have HR1 := Lib.hid hR
      have HB1' := Lib.hid (HB0'.out.trans (hA.below.mono (by omega)))
      have HO1 := Lib.hid (And.intro (sl_nums HO0.out.1 HO0.out.2 hA.nums) (nums_nums HO0.out.2 hA.nums))
      clear hR hA hG hM hWt ht hP hb0 dd1 dd2
      clear c0 c1 c2
      clear o0 o1
      have c0 : z1.cell? ⟨w.heap.size, 0, none⟩ = some (.int .i64 v0) := (HX1.out).cell (j := 0) rfl
      have c1 : z1.cell? ⟨w.heap.size + 1, 0, none⟩ = some (.int .i64 v1) := (HX1.out).cell (j := 1) rfl
      have c2 : z1.cell? ⟨w.heap.size + 2, 0, none⟩ = some (.int .i64 v2) := (HX1.out).cell (j := 2) rfl
      have o0 : z1.cell? oa = some (.int .i64 t0) := sl_c0 HO1.out.1 rfl
      have o1 : z1.cell? ⟨oa.block, oa.off + 1, none⟩ = some (.int .i64 t1) := sl_cs HO1.out.1 0 rfl
      have HC2 := Lib.hid (fun W (hW : Below z1.heap.size z1 W) => (blind_ok B b ns1 v1 t1 W (HR1.out.below hW) (HH.out v1 (by simp)) Wt1.out (HTB.out _ (HB1'.out.trans (hW.mono (by have := HR1.out.base_le; omega))))).mono fun _ _ q => MkP.shift q (Af.of hW HR1.out.base_le))
      have hb0 : Below z1.heap.size z1 z1 := Below.refl _ _
      go_wp2_with fail
      go_region_held3 (fun w' => w'.cell? ⟨w.heap.size + 1, 0, none⟩ = some (.int .i64 v1) ∧ w'.cell? ⟨oa.block, oa.off + 1, none⟩ = some (.int .i64 t1)) (first | exact ⟨c1, o1⟩ | exact ⟨dd1, dd2⟩) (first
          | (go_at_call 16; refine (HC2.out _ (by first | exact hb0 | exact hb0.drew | exact below_drewN hb0 _)).mono ?_; rintro e z2 hP; obtain ⟨ty, e2, ns2, rfl, hR, hA, hG, hWt, hM⟩ := hP.gr; have dd1 : z2.cell? ⟨w.heap.size + 1, 0, none⟩ = some (.int .i64 v1) := (((HX1.out).below hA.below (by simp; omega)).cell (j := 1) rfl); have dd2 : z2.cell? ⟨oa.block, oa.off + 1, none⟩ = some (.int .i64 t1) := sl_cs (sl_nums HO1.out.1 HO1.out.2 hA.nums) 0 rfl))
      obtain ⟨rfl, ht⟩ := hM.isT (may_of (by simp [arF]) (by simp) (known2 (HF1.out v1 (by simp)) It1_1.out.has) (by decide)) (by omega)
      have hl2 : ns2.length ≤ 607 := by have := hG.2; omega
      have It0_2 := Lib.hid ((It0_1.out).grow hG)
      have It1_2 := Lib.hid ((It1_1.out).grow hG)
      have Itx_2 := Lib.hid ((Itx_1.out).grow hG)
      have Ity_2 := Lib.hid ht; have Wty := Lib.hid hWt
      have HX2 := Lib.hid ((HX1.out).below hA.below (by simp; omega))
      have HF2 : Hid (∀ v ∈ [v0, v1, v2], hasF ns2 v = true) := Lib.hid (fun v hv => hG.has (HF1.out v hv))
      have HR2 := Lib.hid hR
      have HB2' := Lib.hid (HB1'.out.trans (hA.below.mono (by omega)))
      have HO2 := Lib.hid (And.intro (sl_nums HO1.out.1 HO1.out.2 hA.nums) (nums_nums HO1.out.2 hA.nums))
      clear hR hA hG hM hWt ht hP hb0 dd1 dd2
      clear c0 c1 c2
      clear o0 o1
      have c0 : z2.cell? ⟨w.heap.size, 0, none⟩ = some (.int .i64 v0) := (HX2.out).cell (j := 0) rfl
      have c1 : z2.cell? ⟨w.heap.size + 1, 0, none⟩ = some (.int .i64 v1) := (HX2.out).cell (j := 1) rfl
      have c2 : z2.cell? ⟨w.heap.size + 2, 0, none⟩ = some (.int .i64 v2) := (HX2.out).cell (j := 2) rfl
      have o0 : z2.cell? oa = some (.int .i64 t0) := sl_c0 HO2.out.1 rfl
      have o1 : z2.cell? ⟨oa.block, oa.off + 1, none⟩ = some (.int .i64 t1) := sl_cs HO2.out.1 0 rfl
      have HC3 := Lib.hid (fun W (hW : Below z2.heap.size z2 W) => (blind_ok B b ns2 v2 t0 W (HR2.out.below hW) (HH.out v2 (by simp)) Wt0.out (HTB.out _ (HB2'.out.trans (hW.mono (by have := HR2.out.base_le; omega))))).mono fun _ _ q => MkP.shift q (Af.of hW HR2.out.base_le))
      have hb0 : Below z2.heap.size z2 z2 := Below.refl _ _
      go_wp2_with fail
      go_region_held3 (fun w' => w'.cell? ⟨w.heap.size + 2, 0, none⟩ = some (.int .i64 v2) ∧ w'.cell? oa = some (.int .i64 t0)) (first | exact ⟨c2, o0⟩ | exact ⟨dd1, dd2⟩) (first
          | (go_at_call 16; refine (HC3.out _ (by first | exact hb0 | exact hb0.drew | exact below_drewN hb0 _)).mono ?_; rintro e z3 hP; obtain ⟨tz, e3, ns3, rfl, hR, hA, hG, hWt, hM⟩ := hP.gr; have dd1 : z3.cell? ⟨w.heap.size + 2, 0, none⟩ = some (.int .i64 v2) := (((HX2.out).below hA.below (by simp; omega)).cell (j := 2) rfl); have dd2 : z3.cell? oa = some (.int .i64 t0) := sl_c0 (sl_nums HO2.out.1 HO2.out.2 hA.nums) rfl))
      obtain ⟨rfl, ht⟩ := hM.isT (may_of (by simp [arF]) (by simp) (known2 (HF2.out v2 (by simp)) It0_2.out.has) (by decide)) (by omega)
      have hl3 : ns3.length ≤ 608 := by have := hG.2; omega
      have It0_3 := Lib.hid ((It0_2.out).grow hG)
      have It1_3 := Lib.hid ((It1_2.out).grow hG)
      have Itx_3 := Lib.hid ((Itx_2.out).grow hG)
      have Ity_3 := Lib.hid ((Ity_2.out).grow hG)
      have Itz_3 := Lib.hid ht; have Wtz := Lib.hid hWt
      have HX3 := Lib.hid ((HX2.out).below hA.below (by simp; omega))
      have HF3 : Hid (∀ v ∈ [v0, v1, v2], hasF ns3 v = true) := Lib.hid (fun v hv => hG.has (HF2.out v hv))
      have HR3 := Lib.hid hR
      have HB3' := Lib.hid (HB2'.out.trans (hA.below.mono (by omega)))
      have HO3 := Lib.hid (And.intro (sl_nums HO2.out.1 HO2.out.2 hA.nums) (nums_nums HO2.out.2 hA.nums))
      clear hR hA hG hM hWt ht hP hb0 dd1 dd2
      clear c0 c1 c2
      clear o0 o1
      have c0 : z3.cell? ⟨w.heap.size, 0, none⟩ = some (.int .i64 v0) := (HX3.out).cell (j := 0) rfl
      have c1 : z3.cell? ⟨w.heap.size + 1, 0, none⟩ = some (.int .i64 v1) := (HX3.out).cell (j := 1) rfl
      have c2 : z3.cell? ⟨w.heap.size + 2, 0, none⟩ = some (.int .i64 v2) := (HX3.out).cell (j := 2) rfl
      have o0 : z3.cell? oa = some (.int .i64 t0) := sl_c0 HO3.out.1 rfl
      have o1 : z3.cell? ⟨oa.block, oa.off + 1, none⟩ = some (.int .i64 t1) := sl_cs HO3.out.1 0 rfl
      have HC4 := Lib.hid (sign_ok B b ns3 v0 tx z3 HR3.out (HH.out v0 (by simp)) Wtx.out (HTB.out _ HB3'.out))
      go_wp2_with (go_at_call 17; refine HC4.out.mono ?_; rintro e z4 hP; obtain ⟨ts, e4, ns4, rfl, hR, hA, hG, hWt, hM⟩ := hP.gr; refine Hid.out ?_)
      refine Lib.hid ?_
      obtain ⟨rfl, ht⟩ := hM.isT (may_of (by simp [arF]) (by simp) (known2 (HF3.out v0 (by simp)) Itx_3.out.has) (by decide)) (by omega)
      have hl4 : ns4.length ≤ 609 := by have := hG.2; omega
      have It0_4 := Lib.hid ((It0_3.out).grow hG)
      have It1_4 := Lib.hid ((It1_3.out).grow hG)
      have Itx_4 := Lib.hid ((Itx_3.out).grow hG)
      have Ity_4 := Lib.hid ((Ity_3.out).grow hG)
      have Itz_4 := Lib.hid ((Itz_3.out).grow hG)
      have Its_4 := Lib.hid ht; have Wts := Lib.hid hWt
      have HX4 := Lib.hid ((HX3.out).below hA.below (by simp; omega))
      have HF4 : Hid (∀ v ∈ [v0, v1, v2], hasF ns4 v = true) := Lib.hid (fun v hv => hG.has (HF3.out v hv))
      have HR4 := Lib.hid hR
      have HB4' := Lib.hid (HB3'.out.trans (hA.below.mono (by omega)))
      have HO4 := Lib.hid (And.intro (sl_nums HO3.out.1 HO3.out.2 hA.nums) (nums_nums HO3.out.2 hA.nums))
      clear hR hA hG hM hWt ht hP
      clear c0 c1 c2
      clear o0 o1
      have c0 : z4.cell? ⟨w.heap.size, 0, none⟩ = some (.int .i64 v0) := (HX4.out).cell (j := 0) rfl
      have c1 : z4.cell? ⟨w.heap.size + 1, 0, none⟩ = some (.int .i64 v1) := (HX4.out).cell (j := 1) rfl
      have c2 : z4.cell? ⟨w.heap.size + 2, 0, none⟩ = some (.int .i64 v2) := (HX4.out).cell (j := 2) rfl
      have o0 : z4.cell? oa = some (.int .i64 t0) := sl_c0 HO4.out.1 rfl
      have o1 : z4.cell? ⟨oa.block, oa.off + 1, none⟩ = some (.int .i64 t1) := sl_cs HO4.out.1 0 rfl
      have HC5 := Lib.hid (unblind_ok B b ns4 ts t0 z4 HR4.out (HTB.out _ HB4'.out))
      go_wp2_with (go_at_call 18; refine HC5.out.mono ?_; rintro e z5 ⟨tu, e5, ns5, rfl, hR, hA, hG, hWt, hM⟩; refine Hid.out ?_)
      refine Lib.hid ?_
      obtain ⟨rfl, ht⟩ := (hM.1 (known2 Its_4.out.has It0_4.out.has) v0 v1 ((blinds_iff Its_4.out Itx_4.out).2 ⟨rfl, rfl, rfl⟩)).isT (may_of (by simp [arF]) (by simp) (known2 (HF4.out v0 (by simp)) (HF4.out v1 (by simp))) (by decide)) (by omega)
      have hl5 : ns5.length ≤ 610 := by have := hG.2; omega
      have It0_5 := Lib.hid ((It0_4.out).grow hG)
      have It1_5 := Lib.hid ((It1_4.out).grow hG)
      have Itx_5 := Lib.hid ((Itx_4.out).grow hG)
      have Ity_5 := Lib.hid ((Ity_4.out).grow hG)
      have Itz_5 := Lib.hid ((Itz_4.out).grow hG)
      have Its_5 := Lib.hid ((Its_4.out).grow hG)
      have Itu_5 := Lib.hid ht; have Wtu := Lib.hid hWt
      have HX5 := Lib.hid ((HX4.out).below hA.below (by simp; omega))
      have HF5 : Hid (∀ v ∈ [v0, v1, v2], hasF ns5 v = true) := Lib.hid (fun v hv => hG.has (HF4.out v hv))
      have HR5 := Lib.hid hR
      have HB5' := Lib.hid (HB4'.out.trans (hA.below.mono (by omega)))
      have HO5 := Lib.hid (And.intro (sl_nums HO4.out.1 HO4.out.2 hA.nums) (nums_nums HO4.out.2 hA.nums))
      clear hR hA hG hM hWt ht
      clear c0 c1 c2
      clear o0 o1
      have c0 : z5.cell? ⟨w.heap.size, 0, none⟩ = some (.int .i64 v0) := (HX5.out).cell (j := 0) rfl
      have c1 : z5.cell? ⟨w.heap.size + 1, 0, none⟩ = some (.int .i64 v1) := (HX5.out).cell (j := 1) rfl
      have c2 : z5.cell? ⟨w.heap.size + 2, 0, none⟩ = some (.int .i64 v2) := (HX5.out).cell (j := 2) rfl
      have o0 : z5.cell? oa = some (.int .i64 t0) := sl_c0 HO5.out.1 rfl
      have o1 : z5.cell? ⟨oa.block, oa.off + 1, none⟩ = some (.int .i64 t1) := sl_cs HO5.out.1 0 rfl
      have HC6 := Lib.hid (unblind_ok B b ns5 ts t1 z5 HR5.out (HTB.out _ HB5'.out))
      go_wp2_with (go_at_call 18; refine HC6.out.mono ?_; rintro e z6 ⟨no, e6, ns6, rfl, hR, hA, hG, hWt, hM⟩; refine Hid.out ?_)
      refine Lib.hid ?_
      have hnw : ¬ t1 = t0 := fun q => by
        have := (It1_5.out).uniq (q ▸ It0_5.out)
        simp [atomN] at this
      obtain rfl := hM.2 (known2 Its_5.out.has It1_5.out.has) (fun sk m q => hnw ((blinds_iff Its_5.out Itx_5.out).1 q).2.2)
      clear hnw
      have ht : True := trivial
      have hl6 : ns6.length ≤ 611 := by have := hG.2; omega
      have It0_6 := Lib.hid ((It0_5.out).grow hG)
      have It1_6 := Lib.hid ((It1_5.out).grow hG)
      have Itx_6 := Lib.hid ((Itx_5.out).grow hG)
      have Ity_6 := Lib.hid ((Ity_5.out).grow hG)
      have Itz_6 := Lib.hid ((Itz_5.out).grow hG)
      have Its_6 := Lib.hid ((Its_5.out).grow hG)
      have Itu_6 := Lib.hid ((Itu_5.out).grow hG)
      have Ino_6 := Lib.hid ht; have Wno := Lib.hid hWt
      have HX6 := Lib.hid ((HX5.out).below hA.below (by simp; omega))
      have HF6 : Hid (∀ v ∈ [v0, v1, v2], hasF ns6 v = true) := Lib.hid (fun v hv => hG.has (HF5.out v hv))
      have HR6 := Lib.hid hR
      have HB6' := Lib.hid (HB5'.out.trans (hA.below.mono (by omega)))
      have HO6 := Lib.hid (And.intro (sl_nums HO5.out.1 HO5.out.2 hA.nums) (nums_nums HO5.out.2 hA.nums))
      clear hR hA hG hM hWt ht
      clear c0 c1 c2
      clear o0 o1
      have c0 : z6.cell? ⟨w.heap.size, 0, none⟩ = some (.int .i64 v0) := (HX6.out).cell (j := 0) rfl
      have c1 : z6.cell? ⟨w.heap.size + 1, 0, none⟩ = some (.int .i64 v1) := (HX6.out).cell (j := 1) rfl
      have c2 : z6.cell? ⟨w.heap.size + 2, 0, none⟩ = some (.int .i64 v2) := (HX6.out).cell (j := 2) rfl
      have o0 : z6.cell? oa = some (.int .i64 t0) := sl_c0 HO6.out.1 rfl
      have o1 : z6.cell? ⟨oa.block, oa.off + 1, none⟩ = some (.int .i64 t1) := sl_cs HO6.out.1 0 rfl
      have HC7 := Lib.hid (public_ok B b ns6 v0 z6 HR6.out (HH.out v0 (by simp)) (HTB.out _ HB6'.out))
      go_wp2_with (go_at_call 19; refine HC7.out.mono ?_; rintro e z7 hP; obtain ⟨pk, e7, ns7, rfl, hR, hA, hG, hWt, hM⟩ := hP.gr; refine Hid.out ?_)
      refine Lib.hid ?_
      obtain ⟨rfl, ht⟩ := hM.isT (may_of (by simp [arF]) (by simp) (known1 (HF6.out v0 (by simp))) (by decide)) (by omega)
      have hl7 : ns7.length ≤ 612 := by have := hG.2; omega
      have It0_7 := Lib.hid ((It0_6.out).grow hG)
      have It1_7 := Lib.hid ((It1_6.out).grow hG)
      have Itx_7 := Lib.hid ((Itx_6.out).grow hG)
      have Ity_7 := Lib.hid ((Ity_6.out).grow hG)
      have Itz_7 := Lib.hid ((Itz_6.out).grow hG)
      have Its_7 := Lib.hid ((Its_6.out).grow hG)
      have Itu_7 := Lib.hid ((Itu_6.out).grow hG)
      have Ipk_7 := Lib.hid ht; have Wpk := Lib.hid hWt
      have HX7 := Lib.hid ((HX6.out).below hA.below (by simp; omega))
      have HF7 : Hid (∀ v ∈ [v0, v1, v2], hasF ns7 v = true) := Lib.hid (fun v hv => hG.has (HF6.out v hv))
      have HR7 := Lib.hid hR
      have HB7' := Lib.hid (HB6'.out.trans (hA.below.mono (by omega)))
      have HO7 := Lib.hid (And.intro (sl_nums HO6.out.1 HO6.out.2 hA.nums) (nums_nums HO6.out.2 hA.nums))
      clear hR hA hG hM hWt ht hP
      clear c0 c1 c2
      clear o0 o1
      have c0 : z7.cell? ⟨w.heap.size, 0, none⟩ = some (.int .i64 v0) := (HX7.out).cell (j := 0) rfl
      have c1 : z7.cell? ⟨w.heap.size + 1, 0, none⟩ = some (.int .i64 v1) := (HX7.out).cell (j := 1) rfl
      have c2 : z7.cell? ⟨w.heap.size + 2, 0, none⟩ = some (.int .i64 v2) := (HX7.out).cell (j := 2) rfl
      have o0 : z7.cell? oa = some (.int .i64 t0) := sl_c0 HO7.out.1 rfl
      have o1 : z7.cell? ⟨oa.block, oa.off + 1, none⟩ = some (.int .i64 t1) := sl_cs HO7.out.1 0 rfl
      obtain ⟨r, hr⟩ : ∃ r : Bool, r = decide (v1 = v2) := ⟨_, rfl⟩
      have nxy : (tx != ty) = true := by
        rw [bne_iff_ne]
        intro q
        have h1 := (Itx_7.out).uniq (q ▸ Ity_7.out)
        simp [ofN] at h1
        have h2 := (It0_7.out).uniq (h1 ▸ It1_7.out)
        simp [atomN] at h2
      have P1 : Hid (tx = tz ↔ v1 = v2) := Lib.hid (by
        constructor
        · intro q
          have h1 := (Itx_7.out).uniq (q ▸ Itz_7.out)
          simpa [ofN] using h1
        · intro q
          exact HR7.out.inj Itx_7.out (by rw [q]; exact Itz_7.out))
      have nxz : (tx == tz) = r := by rw [hr]; cases h : tx == tz <;> simp_all [P1.out]
      have u1 : (v1 == v2) = r := by rw [hr]; cases h : v1 == v2 <;> simp_all
      have V1 := Lib.hid (verify_is HR7.out pk v1 tu true (by rw [verify_iff Ipk_7.out Itu_7.out]; simp))
      have V2 := Lib.hid (verify_is HR7.out pk v2 tu r (by rw [verify_iff Ipk_7.out Itu_7.out, hr]; simp; exact eq_comm))
      have V3 := Lib.hid (verify_is HR7.out pk tx ts true (by rw [verify_iff Ipk_7.out Its_7.out]; simp))
      have hb0 : Below z7.heap.size z7 z7 := Below.refl _ _
      have hpz : w.heap.size + 3 ≤ z7.heap.size := by have := HR7.out.base_le; omega
      clear hr
      cases r
      all_goals
        go_wp2_with fail
        go_region_held3 (fun w' => w'.cell? ⟨w.heap.size, 0, none⟩ = some (.int .i64 v0) ∧ w'.cell? ⟨w.heap.size + 1, 0, none⟩ = some (.int .i64 v1) ∧ w'.cell? ⟨w.heap.size + 2, 0, none⟩ = some (.int .i64 v2)) (first | exact ⟨c0, c1, c2⟩ | exact ⟨(hb1.cell (p := ⟨w.heap.size, 0, none⟩) (by show w.heap.size < _; omega)).trans c0, (hb1.cell (p := ⟨w.heap.size + 1, 0, none⟩) (by show w.heap.size + 1 < _; omega)).trans c1, (hb1.cell (p := ⟨w.heap.size + 2, 0, none⟩) (by show w.heap.size + 2 < _; omega)).trans c2⟩ | exact ⟨(hb2.cell (p := ⟨w.heap.size, 0, none⟩) (by show w.heap.size < _; omega)).trans c0, (hb2.cell (p := ⟨w.heap.size + 1, 0, none⟩) (by show w.heap.size + 1 < _; omega)).trans c1, (hb2.cell (p := ⟨w.heap.size + 2, 0, none⟩) (by show w.heap.size + 2 < _; omega)).trans c2⟩ | exact ⟨(hb3.cell (p := ⟨w.heap.size, 0, none⟩) (by show w.heap.size < _; omega)).trans c0, (hb3.cell (p := ⟨w.heap.size + 1, 0, none⟩) (by show w.heap.size + 1 < _; omega)).trans c1, (hb3.cell (p := ⟨w.heap.size + 2, 0, none⟩) (by show w.heap.size + 2 < _; omega)).trans c2⟩) (first
          | (go_at_call 14; have _t := hb2; refine (V3.out _ hb2).mono ?_; rintro e y3 ⟨rfl, hB⟩; have hb3 : Below z7.heap.size z7 y3 := hb2.trans (hB.mono hb2.size); clear hB)
          | (go_at_call 14; have _t := hb1; refine (V2.out _ hb1).mono ?_; rintro e y2 ⟨rfl, hB⟩; have hb2 : Below z7.heap.size z7 y2 := hb1.trans (hB.mono hb1.size); clear hB)
          | (go_at_call 14; refine (V1.out _ (by first | exact hb0 | exact hb0.drew | exact below_drewN hb0 _)).mono ?_; rintro e y1 ⟨rfl, hB⟩; have hb1 : Below z7.heap.size z7 y1 := Below.trans (by first | exact hb0 | exact hb0.drew | exact below_drewN hb0 _) (hB.mono (by first | exact Nat.le_refl _ | exact hb0.size)); clear hB))
        have hbf : Below w.heap.size w y3 := HB7'.out.trans (hb3.mono (by omega))
        clear hb1 hb2 hb3 c0 c1 c2
        go_wp2_with fail
        go_ret
        exact ⟨rfl, hbf⟩
end Go.Proofs.YthbfaledmoobjaaDoor
