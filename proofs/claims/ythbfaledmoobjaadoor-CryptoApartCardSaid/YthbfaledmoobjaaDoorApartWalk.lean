/- The walk of the law CryptoApart. -/
import Derived.Test.YthbfaledmoobjaaDoorLawBase
import Derived.Laws.StructEq
namespace Go.Proofs.YthbfaledmoobjaaDoor
open Go.RowKit

/-- a node's parts are other terms -/
theorem part_ne {w : World} {base b : Nat} {ns : List NN} (h : AR w base b ns) {t v : Int} {x : NN} (ht : IsT ns t x) (hv : v ∈ x.l) : t ≠ v := by
  have := (h.may ht.2).has v hv
  unfold hasF at this
  simp at this
  have := ht.1
  omega
set_option maxRecDepth 100000 in
set_option maxHeartbeats 8000000 in
theorem apartWalk (A : Option Addr) (n c : Nat) (l : List OpN) (x y z : Int) (sp sq : ByteArray) (w : World) (h : Os w A n c l) (hw : Hid (∀ o ∈ l, OWf o)) (_hx : W64 x) (_hy : W64 y) (_hz : W64 z) (hT : Tb w.heap.size w) :
    Calls Tryd.prog 7 #[.slice A n c, .int .i64 x, .int .i64 y, .int .i64 z, .string sp, .string sq] w fun e w' => e = .returned (.bool true) ∧ Below w.heap.size w w' := by
  obtain ⟨W0, hW0⟩ : ∃ W0, (((w.alloc (.cells #[.int .i64 x] 3)).alloc (.cells #[.int .i64 y] 3)).alloc (.cells #[.int .i64 z] 3)) = W0 := ⟨_, rfl⟩
  have hB0 : Below w.heap.size w W0 := by rw [← hW0]; exact (((Below.refl _ w).alloc (by simp) _).alloc (by simp; try omega) _).alloc (by simp; try omega) _
  have hbx0 : Boxes W0 w.heap.size [x, y, z] := by
    rw [← hW0]
    exact boxes3 w x y z
  have hsz0 : W0.heap.size = w.heap.size + 3 := by rw [← hW0]; simp
  have HLV := Lib.hid (live_ok W0 (hT.here hB0))
  have HO := Lib.hid h
  have HT := Lib.hid hT
  have HW0 := Lib.hid hW0; have HB0 := Lib.hid hB0; have HBX0 := Lib.hid hbx0; have HSZ0 := Lib.hid hsz0
  clear h hT hW0 hB0 hbx0 hsz0
  go_enter Tryd.func7, Tryd.ntmps7
  go_wp2_with (go_at_call 8; rw [HW0.out]; refine HLV.out.mono ?_; rintro e w1 ⟨rfl, hB1⟩; refine Hid.out ?_)
  refine Lib.hid ?_
  have hB1w := HB0.out.trans (hB1.mono (by have := HSZ0.out; omega))
  have HF := Lib.hid (few_ok A n c l w1 ((HO.out).below hB1w))
  have HBX1 := Lib.hid ((HBX0.out).below hB1 (by have := HSZ0.out; simp; omega))
  have HS1 := Lib.hid hB1.size
  obtain ⟨f, hf⟩ : ∃ f, decide (Few l) = f := ⟨_, rfl⟩
  rw [hf] at HF
  have HFE := Lib.hid hf
  have HB1 := Lib.hid hB1w
  clear hB1 hB1w hf
  go_wp2_with (go_at_call 9; refine HF.out.mono ?_; rintro e w2 ⟨rfl, hB2⟩; refine Hid.out ?_)
  refine Lib.hid ?_
  have HBX2 := Lib.hid ((HBX1.out).below hB2 (by have := HSZ0.out; have := HS1.out; simp; omega))
  have hs2 : w.heap.size + 3 ≤ w2.heap.size := by have := hB2.size; have := HSZ0.out; have := HS1.out; omega
  have HB2 := Lib.hid (HB1.out.trans (hB2.mono (by have := HSZ0.out; have := HS1.out; omega)))
  clear hB2
  cases f
  · go_wp2_with fail
    go_ret
    exact ⟨rfl, HB2.out⟩
  have ht1 : ∀ q : ByteArray, (decide ((100 : Int) < (q.size : Int)) = true ∧ decide (100 < q.size) = true) ∨ (decide ((100 : Int) < (q.size : Int)) = false ∧ decide (100 < q.size) = false) := fun q => by
    by_cases h : 100 < q.size
    · exact .inl ⟨decide_eq_true (by omega), decide_eq_true h⟩
    · exact .inr ⟨decide_eq_false (by omega), decide_eq_false h⟩
  by_cases hp1 : 100 < sp.size
  · have tp := decide_eq_true (show (100 : Int) < (sp.size : Int) by omega)
    have tp' := decide_eq_true hp1
    clear hp1 ht1
    go_wp2_with fail
    go_ret
    exact ⟨rfl, HB2.out⟩
  have tp := decide_eq_false (show ¬ (100 : Int) < (sp.size : Int) by omega)
  have tp' := decide_eq_false hp1
  by_cases hq1 : 100 < sq.size
  · have tq := decide_eq_true (show (100 : Int) < (sq.size : Int) by omega)
    have tq' := decide_eq_true hq1
    clear hp1 hq1 ht1
    go_wp2_with fail
    go_ret
    exact ⟨rfl, HB2.out⟩
  have tq := decide_eq_false (show ¬ (100 : Int) < (sq.size : Int) by omega)
  have tq' := decide_eq_false hq1
  have HSP : Hid (sp.size ≤ 200 ∧ sq.size ≤ 200) := Lib.hid ⟨by omega, by omega⟩
  clear hp1 hq1 ht1
  have HG := Lib.hid (grown_ok A n c l w2 ((HO.out).below HB2.out) (of_decide_eq_true HFE.out) hw (HT.out.here HB2.out))
  obtain ⟨B, hB⟩ : ∃ B, w2.heap.size = B := ⟨_, rfl⟩
  have HBB := Lib.hid hB
  rw [hB] at hs2
  clear hB
  go_wp2_with (go_at_call 10; refine HG.out.mono ?_; rintro e w3 ⟨b, O, oc, outs, ns, rfl, hR3, hB3, hl3, hO3, hN3, ho5, hou⟩; refine Hid.out ?_)
  refine Lib.hid ?_
  have HBX3 := Lib.hid ((HBX2.out).below hB3 (by rw [HBB.out]; simp; omega))
  rw [HBB.out] at hR3 hB3 hN3
  have HB3 := Lib.hid (HB2.out.trans (hB3.mono (by omega)))
  have hs3 : B ≤ w3.heap.size := hR3.base_le
  have hpos := outs_pos hou ho5
  have HR3 := Lib.hid hR3
  have HL3 := Lib.hid (len_ok _ b ns w3 hR3)
  have HO3 := Lib.hid hO3; have HN3 := Lib.hid hN3; have HO5 := Lib.hid ho5; have HOU := Lib.hid hou
  clear hB3 hR3 hO3 hN3 ho5 hou
  go_wp2_with (go_at_call 11; refine HL3.out.mono ?_; rintro e w' ⟨rfl, rfl⟩; refine Hid.out ?_)
  refine Lib.hid ?_
  obtain ⟨m, hm⟩ : ∃ m : Int, (ns.length : Int) = m := ⟨_, rfl⟩
  have HM := Lib.hid hm
  rw [hm]
  have hm0 : 0 < m := by omega
  have hm9 : m ≤ 605 := by omega
  clear hm
  have t1 : decide (0 < m) = true := decide_eq_true hm0
  obtain ⟨g, hg⟩ : ∃ g, w3.heap.size = g := ⟨_, rfl⟩
  have HGE := Lib.hid hg
  rw [hg] at hs3
  clear hg
  go_wp2_with fail
  rw [HGE.out]
  go_loopw [53] (fun i wz => ∃ k : Nat, k ≤ 3 ∧ i = .int .i64 (k : Int) ∧ Hid (Boxes wz w.heap.size (nrm m [x, y, z] k)) ∧ Hid (AR wz B b ns) ∧ Hid (wz.heap[g]? = some (.cells #[.pointer (some ⟨w.heap.size, 0, none⟩), .pointer (some ⟨w.heap.size + 1, 0, none⟩), .pointer (some ⟨w.heap.size + 2, 0, none⟩)] 36 (0, 0))) ∧ Hid (Below w.heap.size w wz) ∧ Hid (Sl wz O 5 oc (iv outs) ∧ NumsB B wz O outs)) (fun i _ => 3 - (intOf i).toNat)
  case atStart =>
    refine ⟨0, by omega, rfl, Lib.hid ?_, Lib.hid ((HR3.out).alloc _), Lib.hid (by rw [← HGE.out]; exact heap_alloc_new _ _), Lib.hid ((HB3.out).alloc (by have := HGE.out; omega) _), Lib.hid ⟨HO3.out.alloc _, ⟨HN3.out.1.keep (fun q hq => Below.heap_alloc _ _ _ hq), HN3.out.2⟩⟩⟩
    exact (HBX3.out).below (B := g) ((Below.refl _ w3).alloc (by rw [HGE.out]; exact Nat.le_refl _) _) (by simp; omega)
  case round =>
    obtain ⟨k, hk, rfl, HX, HR, HP, HBW, HOO⟩ := hrel
    by_cases hlt : k < 3
    · have hk' : k = 0 ∨ k = 1 ∨ k = 2 := by omega
      clear hlt hk
      rcases hk' with rfl | rfl | rfl
      · have c0 : wr.cell? ⟨w.heap.size, 0, none⟩ = some (.int .i64 x) := (HX.out).cell (j := 0) rfl
        have y0 : wr.frozen? ⟨w.heap.size, 0, none⟩ = false := (HX.out).frz (j := 0) rfl
        have d0 : wr.cell? ⟨g, 0, none⟩ = some (.pointer (some ⟨w.heap.size, 0, none⟩)) := cell_of HP.out 0
        have hq := tmod_lt (x := x) hm0
        have hX2 := (HX.out).set (j := 0) (by simp [nrm]) (nf m x)
        have hR2 := (HR.out).setb (a := ⟨w.heap.size, 0, none⟩) (by show w.heap.size < B; omega) (.int .i64 (nf m x))
        have hP2 : (wr.setCell ⟨w.heap.size, 0, none⟩ (.int .i64 (nf m x))).heap[g]? = _ := (heap_setCell_other _ _ _ _ (by show g ≠ w.heap.size; omega)).trans HP.out
        have hBW2 := (HBW.out).setCell (p := ⟨w.heap.size, 0, none⟩) (by show w.heap.size ≤ w.heap.size; omega) (.int .i64 (nf m x))
        have hOO2 := sl_setb HOO.out.1 HOO.out.2 (a := ⟨w.heap.size, 0, none⟩) (by show w.heap.size < B; omega) (.int .i64 (nf m x))
        have HX2 := Lib.hid hX2; have HR2 := Lib.hid hR2; have HP2 := Lib.hid hP2; have HBW2 := Lib.hid hBW2; have HOO2 := Lib.hid hOO2
        clear hX2 hR2 hP2 hBW2 hOO2
        go_wp2_with fail
        go_roundw
        case rel => exact ⟨1, by omega, rfl, HX2, HR2, HP2, HBW2, HOO2⟩
        case measure => simp [intOf]; try decide
      · have c0 : wr.cell? ⟨w.heap.size + 1, 0, none⟩ = some (.int .i64 y) := (HX.out).cell (j := 1) rfl
        have y0 : wr.frozen? ⟨w.heap.size + 1, 0, none⟩ = false := (HX.out).frz (j := 1) rfl
        have d0 : wr.cell? ⟨g, 1, none⟩ = some (.pointer (some ⟨w.heap.size + 1, 0, none⟩)) := cell_of HP.out 1
        have hq := tmod_lt (x := y) hm0
        have hX2 := (HX.out).set (j := 1) (by simp [nrm]) (nf m y)
        have hR2 := (HR.out).setb (a := ⟨w.heap.size + 1, 0, none⟩) (by show w.heap.size + 1 < B; omega) (.int .i64 (nf m y))
        have hP2 : (wr.setCell ⟨w.heap.size + 1, 0, none⟩ (.int .i64 (nf m y))).heap[g]? = _ := (heap_setCell_other _ _ _ _ (by show g ≠ w.heap.size + 1; omega)).trans HP.out
        have hBW2 := (HBW.out).setCell (p := ⟨w.heap.size + 1, 0, none⟩) (by show w.heap.size ≤ w.heap.size + 1; omega) (.int .i64 (nf m y))
        have hOO2 := sl_setb HOO.out.1 HOO.out.2 (a := ⟨w.heap.size + 1, 0, none⟩) (by show w.heap.size + 1 < B; omega) (.int .i64 (nf m y))
        have HX2 := Lib.hid hX2; have HR2 := Lib.hid hR2; have HP2 := Lib.hid hP2; have HBW2 := Lib.hid hBW2; have HOO2 := Lib.hid hOO2
        clear hX2 hR2 hP2 hBW2 hOO2
        go_wp2_with fail
        go_roundw
        case rel => exact ⟨2, by omega, rfl, HX2, HR2, HP2, HBW2, HOO2⟩
        case measure => simp [intOf]; try decide
      · have c0 : wr.cell? ⟨w.heap.size + 2, 0, none⟩ = some (.int .i64 z) := (HX.out).cell (j := 2) rfl
        have y0 : wr.frozen? ⟨w.heap.size + 2, 0, none⟩ = false := (HX.out).frz (j := 2) rfl
        have d0 : wr.cell? ⟨g, 2, none⟩ = some (.pointer (some ⟨w.heap.size + 2, 0, none⟩)) := cell_of HP.out 2
        have hq := tmod_lt (x := z) hm0
        have hX2 := (HX.out).set (j := 2) (by simp [nrm]) (nf m z)
        have hR2 := (HR.out).setb (a := ⟨w.heap.size + 2, 0, none⟩) (by show w.heap.size + 2 < B; omega) (.int .i64 (nf m z))
        have hP2 : (wr.setCell ⟨w.heap.size + 2, 0, none⟩ (.int .i64 (nf m z))).heap[g]? = _ := (heap_setCell_other _ _ _ _ (by show g ≠ w.heap.size + 2; omega)).trans HP.out
        have hBW2 := (HBW.out).setCell (p := ⟨w.heap.size + 2, 0, none⟩) (by show w.heap.size ≤ w.heap.size + 2; omega) (.int .i64 (nf m z))
        have hOO2 := sl_setb HOO.out.1 HOO.out.2 (a := ⟨w.heap.size + 2, 0, none⟩) (by show w.heap.size + 2 < B; omega) (.int .i64 (nf m z))
        have HX2 := Lib.hid hX2; have HR2 := Lib.hid hR2; have HP2 := Lib.hid hP2; have HBW2 := Lib.hid hBW2; have HOO2 := Lib.hid hOO2
        clear hX2 hR2 hP2 hBW2 hOO2
        go_wp2_with fail
        go_roundw
        case rel => exact ⟨3, by omega, rfl, HX2, HR2, HP2, HBW2, HOO2⟩
        case measure => simp [intOf]; try decide
    · obtain rfl : k = 3 := by omega
      clear hlt hk
      obtain ⟨v0, hv0⟩ : ∃ v, nf m x = v := ⟨_, rfl⟩
      obtain ⟨v1, hv1⟩ : ∃ v, nf m y = v := ⟨_, rfl⟩
      obtain ⟨v2, hv2⟩ : ∃ v, nf m z = v := ⟨_, rfl⟩
      have HX0 : Hid (Boxes wr w.heap.size [v0, v1, v2]) := Lib.hid (by rw [← hv0, ← hv1, ← hv2]; exact HX.out)
      have HH : Hid (∀ v ∈ [v0, v1, v2], W64 v) := Lib.hid (by
        rw [← hv0, ← hv1, ← hv2]
        intro v hv
        simp at hv
        rcases hv with rfl | rfl | rfl <;> (rw [← HM.out]; exact nf_w64 hpos hl3 _))
      have HF0 : Hid (∀ v ∈ [v0, v1, v2], hasF ns v = true) := Lib.hid (by
        rw [← hv0, ← hv1, ← hv2]
        intro v hv
        simp at hv
        rcases hv with rfl | rfl | rfl <;> (rw [← HM.out]; exact nf_has hpos _))
      have HTB : Hid (∀ W, Below w.heap.size w W → Tb B W) := Lib.hid (fun W hW => (HT.out.on hW).mono (by omega))
      have HR0 := HR; have HB0' := HBW
      have hl0 : ns.length ≤ 605 := hl3
      clear hv0 hv1 hv2 hm0 hm9 t1
      have c0 : wr.cell? ⟨w.heap.size, 0, none⟩ = some (.int .i64 v0) := (HX0.out).cell (j := 0) rfl
      have c1 : wr.cell? ⟨w.heap.size + 1, 0, none⟩ = some (.int .i64 v1) := (HX0.out).cell (j := 1) rfl
      have c2 : wr.cell? ⟨w.heap.size + 2, 0, none⟩ = some (.int .i64 v2) := (HX0.out).cell (j := 2) rfl
      have HC1 := Lib.hid (expand_ok B b ns v0 v1 sp wr HR0.out (HH.out v0 (by simp)) (HH.out v1 (by simp)) (HTB.out _ HB0'.out))
      go_wp2_with (go_at_call 24; refine HC1.out.mono ?_; rintro e z1 ⟨tx, e1, ns1, rfl, hR, hA, hG, hWt, hM⟩; refine Hid.out ?_)
      refine Lib.hid ?_
      obtain ⟨rfl, ux, hu0, hu, ht0, ht1⟩ := hM (known2 (HF0.out v0 (by simp)) (HF0.out v1 (by simp))) HSP.out.1 (by omega)
      have ht : IsT ns1 tx (ofN 6 [v0, ux, v1]) := ⟨ht0, ht1⟩
      have Iux : Hid (IsT ns1 ux ⟨2, 0, sp, []⟩) := Lib.hid ⟨hu0, hu⟩
      clear hu0 hu ht0 ht1
      have hl1 : ns1.length ≤ 607 := by have := hG.2; omega
      have Itx_1 := Lib.hid ht; have Wtx := Lib.hid hWt
      have HX1 := Lib.hid ((HX0.out).below hA.below (by simp; omega))
      have HF1 : Hid (∀ v ∈ [v0, v1, v2], hasF ns1 v = true) := Lib.hid (fun v hv => hG.has (HF0.out v hv))
      have HR1 := Lib.hid hR
      have HB1' := Lib.hid (HB0'.out.trans (hA.below.mono (by omega)))
      clear hR hA hG hM hWt ht
      clear c0 c1 c2
      have Iux_1 := Iux
      have c0 : z1.cell? ⟨w.heap.size, 0, none⟩ = some (.int .i64 v0) := (HX1.out).cell (j := 0) rfl
      have c1 : z1.cell? ⟨w.heap.size + 1, 0, none⟩ = some (.int .i64 v1) := (HX1.out).cell (j := 1) rfl
      have c2 : z1.cell? ⟨w.heap.size + 2, 0, none⟩ = some (.int .i64 v2) := (HX1.out).cell (j := 2) rfl
      have HC2 := Lib.hid (expand_ok B b ns1 v0 v2 sq z1 HR1.out (HH.out v0 (by simp)) (HH.out v2 (by simp)) (HTB.out _ HB1'.out))
      go_wp2_with (go_at_call 24; refine HC2.out.mono ?_; rintro e z2 ⟨ty, e2, ns2, rfl, hR, hA, hG, hWt, hM⟩; refine Hid.out ?_)
      refine Lib.hid ?_
      obtain ⟨rfl, uy, hu0, hu, ht0, ht1⟩ := hM (known2 (HF1.out v0 (by simp)) (HF1.out v2 (by simp))) HSP.out.2 (by omega)
      have ht : IsT ns2 ty (ofN 6 [v0, uy, v2]) := ⟨ht0, ht1⟩
      have Iuy : Hid (IsT ns2 uy ⟨2, 0, sq, []⟩) := Lib.hid ⟨hu0, hu⟩
      clear hu0 hu ht0 ht1
      have hl2 : ns2.length ≤ 609 := by have := hG.2; omega
      have Itx_2 := Lib.hid ((Itx_1.out).grow hG)
      have Iux_2 := Lib.hid ((Iux_1.out).grow hG)
      have Ity_2 := Lib.hid ht; have Wty := Lib.hid hWt
      have HX2 := Lib.hid ((HX1.out).below hA.below (by simp; omega))
      have HF2 : Hid (∀ v ∈ [v0, v1, v2], hasF ns2 v = true) := Lib.hid (fun v hv => hG.has (HF1.out v hv))
      have HR2 := Lib.hid hR
      have HB2' := Lib.hid (HB1'.out.trans (hA.below.mono (by omega)))
      clear hR hA hG hM hWt ht
      clear c0 c1 c2
      have Iuy_2 := Iuy
      have c0 : z2.cell? ⟨w.heap.size, 0, none⟩ = some (.int .i64 v0) := (HX2.out).cell (j := 0) rfl
      have c1 : z2.cell? ⟨w.heap.size + 1, 0, none⟩ = some (.int .i64 v1) := (HX2.out).cell (j := 1) rfl
      have c2 : z2.cell? ⟨w.heap.size + 2, 0, none⟩ = some (.int .i64 v2) := (HX2.out).cell (j := 2) rfl
      have HC3 := Lib.hid (expand_ok B b ns2 v1 v1 sp z2 HR2.out (HH.out v1 (by simp)) (HH.out v1 (by simp)) (HTB.out _ HB2'.out))
      go_wp2_with (go_at_call 24; refine HC3.out.mono ?_; rintro e z3 ⟨tz, e3, ns3, rfl, hR, hA, hG, hWt, hM⟩; refine Hid.out ?_)
      refine Lib.hid ?_
      obtain ⟨rfl, uz, hu0, hu, ht0, ht1⟩ := hM (known2 (HF2.out v1 (by simp)) (HF2.out v1 (by simp))) HSP.out.1 (by omega)
      have ht : IsT ns3 tz (ofN 6 [v1, uz, v1]) := ⟨ht0, ht1⟩
      have Iuz : Hid (IsT ns3 uz ⟨2, 0, sp, []⟩) := Lib.hid ⟨hu0, hu⟩
      clear hu0 hu ht0 ht1
      have hl3 : ns3.length ≤ 611 := by have := hG.2; omega
      have Itx_3 := Lib.hid ((Itx_2.out).grow hG)
      have Iux_3 := Lib.hid ((Iux_2.out).grow hG)
      have Ity_3 := Lib.hid ((Ity_2.out).grow hG)
      have Iuy_3 := Lib.hid ((Iuy_2.out).grow hG)
      have Itz_3 := Lib.hid ht; have Wtz := Lib.hid hWt
      have HX3 := Lib.hid ((HX2.out).below hA.below (by simp; omega))
      have HF3 : Hid (∀ v ∈ [v0, v1, v2], hasF ns3 v = true) := Lib.hid (fun v hv => hG.has (HF2.out v hv))
      have HR3 := Lib.hid hR
      have HB3' := Lib.hid (HB2'.out.trans (hA.below.mono (by omega)))
      clear hR hA hG hM hWt ht
      clear c0 c1 c2
      have Iuz_3 := Iuz
      have c0 : z3.cell? ⟨w.heap.size, 0, none⟩ = some (.int .i64 v0) := (HX3.out).cell (j := 0) rfl
      have c1 : z3.cell? ⟨w.heap.size + 1, 0, none⟩ = some (.int .i64 v1) := (HX3.out).cell (j := 1) rfl
      have c2 : z3.cell? ⟨w.heap.size + 2, 0, none⟩ = some (.int .i64 v2) := (HX3.out).cell (j := 2) rfl
      have HC4 := Lib.hid (extract_ok B b ns3 v0 v1 z3 HR3.out (HH.out v0 (by simp)) (HH.out v1 (by simp)) (HTB.out _ HB3'.out))
      go_wp2_with (go_at_call 25; refine HC4.out.mono ?_; rintro e z4 hP; obtain ⟨tm, e4, ns4, rfl, hR, hA, hG, hWt, hM⟩ := hP.gr; refine Hid.out ?_)
      refine Lib.hid ?_
      obtain ⟨rfl, ht⟩ := hM.isT (may_of (by simp [arF]) (by simp) (known2 (HF3.out v0 (by simp)) (HF3.out v1 (by simp))) (by decide)) (by omega)
      have hl4 : ns4.length ≤ 612 := by have := hG.2; omega
      have Itx_4 := Lib.hid ((Itx_3.out).grow hG)
      have Iux_4 := Lib.hid ((Iux_3.out).grow hG)
      have Ity_4 := Lib.hid ((Ity_3.out).grow hG)
      have Iuy_4 := Lib.hid ((Iuy_3.out).grow hG)
      have Itz_4 := Lib.hid ((Itz_3.out).grow hG)
      have Iuz_4 := Lib.hid ((Iuz_3.out).grow hG)
      have Itm_4 := Lib.hid ht; have Wtm := Lib.hid hWt
      have HX4 := Lib.hid ((HX3.out).below hA.below (by simp; omega))
      have HF4 : Hid (∀ v ∈ [v0, v1, v2], hasF ns4 v = true) := Lib.hid (fun v hv => hG.has (HF3.out v hv))
      have HR4 := Lib.hid hR
      have HB4' := Lib.hid (HB3'.out.trans (hA.below.mono (by omega)))
      clear hR hA hG hM hWt ht hP
      clear c0 c1 c2
      have c0 : z4.cell? ⟨w.heap.size, 0, none⟩ = some (.int .i64 v0) := (HX4.out).cell (j := 0) rfl
      have c1 : z4.cell? ⟨w.heap.size + 1, 0, none⟩ = some (.int .i64 v1) := (HX4.out).cell (j := 1) rfl
      have c2 : z4.cell? ⟨w.heap.size + 2, 0, none⟩ = some (.int .i64 v2) := (HX4.out).cell (j := 2) rfl
      have HC5 := Lib.hid (extract_ok B b ns4 v1 v0 z4 HR4.out (HH.out v1 (by simp)) (HH.out v0 (by simp)) (HTB.out _ HB4'.out))
      go_wp2_with (go_at_call 25; refine HC5.out.mono ?_; rintro e z5 hP; obtain ⟨tn, e5, ns5, rfl, hR, hA, hG, hWt, hM⟩ := hP.gr; refine Hid.out ?_)
      refine Lib.hid ?_
      obtain ⟨rfl, ht⟩ := hM.isT (may_of (by simp [arF]) (by simp) (known2 (HF4.out v1 (by simp)) (HF4.out v0 (by simp))) (by decide)) (by omega)
      have hl5 : ns5.length ≤ 613 := by have := hG.2; omega
      have Itx_5 := Lib.hid ((Itx_4.out).grow hG)
      have Iux_5 := Lib.hid ((Iux_4.out).grow hG)
      have Ity_5 := Lib.hid ((Ity_4.out).grow hG)
      have Iuy_5 := Lib.hid ((Iuy_4.out).grow hG)
      have Itz_5 := Lib.hid ((Itz_4.out).grow hG)
      have Iuz_5 := Lib.hid ((Iuz_4.out).grow hG)
      have Itm_5 := Lib.hid ((Itm_4.out).grow hG)
      have Itn_5 := Lib.hid ht; have Wtn := Lib.hid hWt
      have HX5 := Lib.hid ((HX4.out).below hA.below (by simp; omega))
      have HF5 : Hid (∀ v ∈ [v0, v1, v2], hasF ns5 v = true) := Lib.hid (fun v hv => hG.has (HF4.out v hv))
      have HR5 := Lib.hid hR
      have HB5' := Lib.hid (HB4'.out.trans (hA.below.mono (by omega)))
      clear hR hA hG hM hWt ht hP
      clear c0 c1 c2
      have c0 : z5.cell? ⟨w.heap.size, 0, none⟩ = some (.int .i64 v0) := (HX5.out).cell (j := 0) rfl
      have c1 : z5.cell? ⟨w.heap.size + 1, 0, none⟩ = some (.int .i64 v1) := (HX5.out).cell (j := 1) rfl
      have c2 : z5.cell? ⟨w.heap.size + 2, 0, none⟩ = some (.int .i64 v2) := (HX5.out).cell (j := 2) rfl
      have P1 : Hid (tx = ty ↔ sp = sq ∧ v1 = v2) := Lib.hid (by
        constructor
        · intro e
          have := (Itx_5.out).uniq (e ▸ Ity_5.out)
          simp [ofN] at this
          have h2 := (Iux_5.out).uniq (this.1 ▸ Iuy_5.out)
          simp at h2
          exact ⟨h2, this.2⟩
        · rintro ⟨e1, e2⟩
          have e3 : ux = uy := HR5.out.inj Iux_5.out (e1 ▸ Iuy_5.out)
          exact HR5.out.inj Itx_5.out (by rw [e3, e2]; exact Ity_5.out))
      have P2 : Hid (tx = tz ↔ v0 = v1) := Lib.hid (by
        constructor
        · intro e
          have := (Itx_5.out).uniq (e ▸ Itz_5.out)
          simp [ofN] at this
          exact this.1
        · intro e
          have e3 : ux = uz := HR5.out.inj Iux_5.out Iuz_5.out
          exact HR5.out.inj Itx_5.out (by rw [e3, e]; exact Itz_5.out))
      have P3 : Hid (tm = tn ↔ v0 = v1) := Lib.hid (by
        constructor
        · intro e
          have := (Itm_5.out).uniq (e ▸ Itn_5.out)
          simp [ofN] at this
          exact this.1
        · intro e
          exact HR5.out.inj Itm_5.out (by have := Itn_5.out; rw [e] at this ⊢; exact this))
      have n1 : (tx != v0) = true := by rw [bne_iff_ne]; exact part_ne HR5.out Itx_5.out (by simp [ofN])
      have n2 : (tx != v1) = true := by rw [bne_iff_ne]; exact part_ne HR5.out Itx_5.out (by simp [ofN])
      have n3 : (tm != v0) = true := by rw [bne_iff_ne]; exact part_ne HR5.out Itm_5.out (by simp [ofN])
      have n4 : (tm != tx) = true := by
        rw [bne_iff_ne]
        intro e
        have := (Itm_5.out).uniq (e ▸ Itx_5.out)
        simp [ofN] at this
      by_cases h1 : v0 = v1
      · have u1 : (v0 == v1) = true := by rw [beq_iff_eq]; exact h1
        have x2 : (tx == tz) = true := by rw [beq_iff_eq]; exact P2.out.2 h1
        have x3 : (tm == tn) = true := by rw [beq_iff_eq]; exact P3.out.2 h1
        clear h1
        by_cases hS : sp = sq
        · have s1 : (sp.toList == sq.toList) = true := by rw [beq_iff_eq, hS]
          have s2 : (sp == sq) = true := by rw [beq_toListBytes]; exact s1
          by_cases h2 : v1 = v2
          · have u2 : (v1 == v2) = true := by rw [beq_iff_eq]; exact h2
            have x1 : (tx == ty) = true := by rw [beq_iff_eq]; exact P1.out.2 ⟨hS, h2⟩
            clear hS h2
            go_wp2_with fail
            go_ret
            exact ⟨rfl, HB5'.out⟩
          · have u2 : (v1 == v2) = false := by rw [beq_eq_false_iff_ne]; exact h2
            have x1 : (tx == ty) = false := by rw [beq_eq_false_iff_ne]; exact fun q => h2 (P1.out.1 q).2
            clear hS h2
            go_wp2_with fail
            go_ret
            exact ⟨rfl, HB5'.out⟩
        · have s1 : (sp.toList == sq.toList) = false := by rw [beq_eq_false_iff_ne]; exact fun q => hS (by rw [ByteArray.toList_eq, ByteArray.toList_eq] at q; apply ByteArray.ext; apply Array.ext'; exact q)
          have s2 : (sp == sq) = false := by rw [beq_toListBytes]; exact s1
          have x1 : (tx == ty) = false := by rw [beq_eq_false_iff_ne]; exact fun q => hS (P1.out.1 q).1
          clear hS
          go_wp2_with fail
          go_ret
          exact ⟨rfl, HB5'.out⟩
      · have u1 : (v0 == v1) = false := by rw [beq_eq_false_iff_ne]; exact h1
        have x2 : (tx == tz) = false := by rw [beq_eq_false_iff_ne]; exact fun q => h1 (P2.out.1 q)
        have x3 : (tm == tn) = false := by rw [beq_eq_false_iff_ne]; exact fun q => h1 (P3.out.1 q)
        clear h1
        by_cases hS : sp = sq
        · have s1 : (sp.toList == sq.toList) = true := by rw [beq_iff_eq, hS]
          have s2 : (sp == sq) = true := by rw [beq_toListBytes]; exact s1
          by_cases h2 : v1 = v2
          · have u2 : (v1 == v2) = true := by rw [beq_iff_eq]; exact h2
            have x1 : (tx == ty) = true := by rw [beq_iff_eq]; exact P1.out.2 ⟨hS, h2⟩
            clear hS h2
            go_wp2_with fail
            go_ret
            exact ⟨rfl, HB5'.out⟩
          · have u2 : (v1 == v2) = false := by rw [beq_eq_false_iff_ne]; exact h2
            have x1 : (tx == ty) = false := by rw [beq_eq_false_iff_ne]; exact fun q => h2 (P1.out.1 q).2
            clear hS h2
            go_wp2_with fail
            go_ret
            exact ⟨rfl, HB5'.out⟩
        · have s1 : (sp.toList == sq.toList) = false := by rw [beq_eq_false_iff_ne]; exact fun q => hS (by rw [ByteArray.toList_eq, ByteArray.toList_eq] at q; apply ByteArray.ext; apply Array.ext'; exact q)
          have s2 : (sp == sq) = false := by rw [beq_toListBytes]; exact s1
          have x1 : (tx == ty) = false := by rw [beq_eq_false_iff_ne]; exact fun q => hS (P1.out.1 q).1
          clear hS
          go_wp2_with fail
          go_ret
          exact ⟨rfl, HB5'.out⟩
end Go.Proofs.YthbfaledmoobjaaDoor
