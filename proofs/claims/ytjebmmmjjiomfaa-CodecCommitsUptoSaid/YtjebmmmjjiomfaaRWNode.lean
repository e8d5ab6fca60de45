/- The walk of the reference's node, that writes. -/
import Derived.Test.YtjebmmmjjiomfaaRWInts
namespace Go.Proofs.Ytjebmmmjjiomfaa
open Go.RowKit

abbrev i0 : Value := .int .i64 0
theorem nodeB0 {s : TN} (hk : s.k = 0) : nodeB s = if sameN s ⟨s.k, 0, 0, 0, 0, []⟩ then nsI [0] else none := by
  by_cases h : s = zN
  · rw [if_pos (sameN_yes (by rw [h]; rfl)), node0_yes h, hk]
  · rw [node0_no hk h, sameN_no (by rw [hk]; exact h)]; rfl
theorem nodeB1 {s : TN} (hk : s.k = 1) : nodeB s = if sameN s ⟨s.k, s.id, s.enc, s.sig, s.hash, []⟩ then nsI [s.k, s.id, s.enc, s.sig, s.hash] else none := by
  rw [same_bare]
  by_cases h : s.un = []
  · rw [decide_eq_true h, node1_yes hk h, nsI_cons s.k [], seqB_assoc, nsI_cons s.k [s.id, s.enc, s.sig, s.hash]]
    show _ = seqB _ _
    congr 1
    exact seqB_nil _
  · rw [decide_eq_false h, node1_no hk h]; rfl
theorem nodeB2 {s : TN} (hk : s.k = 2) : nodeB s = if sameN s ⟨s.k, 0, s.enc, 0, s.hash, s.un⟩ then seqB (nsI [s.k, s.enc, s.hash]) ((nsI s.un).bind vecB) else none := by
  rw [same_bare2]
  by_cases h : s.id = 0 ∧ s.sig = 0
  · rw [decide_eq_true h, node2_yes hk h, nsI_cons s.k [], seqB_assoc, nsI_cons s.k [s.enc, s.hash], seqB_assoc]
    show _ = seqB _ _
    congr 1
    exact seqB_nil _
  · rw [decide_eq_false h, node2_no hk h]; rfl
/-- cells that stand -/
theorem Sl.lit (w : World) (xs : List Int) (cs : Array Value) (hcs : cs.toList = iv xs) (n : Nat) (hn : xs.length = n) (hx : n ≤ 1000) : Sl (w.alloc (.cells cs 3)) (some ⟨w.heap.size, 0, Option.none⟩) n n (iv xs) := by
  refine ⟨by simpa using hn, Nat.le_refl _, by unfold maxLen; omega, ?_⟩
  rw [← hcs]; exact lies_cells w cs 3
set_option maxRecDepth 100000 in
set_option maxHeartbeats 8000000 in
theorem rwnode_ok (A : Option Addr) (n c : Nat) (s : TN) (w : World) (h : Sl w A n c (iv s.un)) (hn : Hid (n ≤ 134217728)) :
    Calls Try.prog 100 #[nv s A n c] w (PEnd (nodeB s) (4 * n + 28) w) := by
  obtain ⟨g, hg⟩ : ∃ g, w.heap.size = g := ⟨_, rfl⟩
  by_cases hk0 : s.k = 0
  · have t : (s.k == 0) = true := by rw [beq_iff_eq]; exact hk0
    have HKE := Lib.hid hk0
    clear hk0
    obtain ⟨wb, hwb⟩ : ∃ wb, (w.alloc (.cells (nc s A n c) 67)).alloc (.cells #[.int .i64 s.k, i0, i0, i0, i0, .slice none 0 0] 67) = wb := ⟨_, rfl⟩
    obtain ⟨wc, hwc⟩ : ∃ wc, wb.alloc (.cells #[i0] 3) = wc := ⟨_, rfl⟩
    have hzb : wb.heap.size = g + 1 + 1 := by rw [← hwb]; simp [hg]
    have hBb : Below w.heap.size w wb := by rw [← hwb]; exact nxa (nxa (Below.refl _ _) _) _
    have hBc : Below w.heap.size w wc := by rw [← hwc]; exact nxa hBb _
    have k0 : wc.heap[g]? = some (.cells (nc s A n c) 67) := by
      rw [← hwc, Below.heap_alloc _ _ _ (by omega), ← hwb, Below.heap_alloc _ _ _ (by simp; omega), ← hg]; exact heap_alloc_new _ _
    have k1 : wc.heap[g + 1]? = some (.cells #[.int .i64 s.k, i0, i0, i0, i0, .slice none 0 0] 67) := by
      have := heap_alloc_new (w.alloc (.cells (nc s A n c) 67)) (.cells #[.int .i64 s.k, i0, i0, i0, i0, .slice none 0 0] 67)
      rw [← hwc, Below.heap_alloc _ _ _ (by omega), ← hwb]
      rwa [show (w.alloc (.cells (nc s A n c) 67)).heap.size = g + 1 by simp [hg]] at this
    have hrow : Sl wc (some ⟨g + 1 + 1, 0, none⟩) 1 1 (iv [0]) := by
      have := Sl.lit wb [0] #[i0] rfl 1 rfl (by omega)
      rwa [hwc, hzb] at this
    have HC := Lib.hid (rwints_ok (some ⟨g + 1 + 1, 0, none⟩) 1 1 [0] wc hrow (by show _ ≤ _; omega))
    have HWB := Lib.hid hwb; have HWC := Lib.hid hwc; have HB := Lib.hid hBc; have K0 := Lib.hid k0; have K1 := Lib.hid k1; have HS := Lib.hid (h.below hBc); have HS0 := Lib.hid h
    have hgc : g + 1 < wc.heap.size := (Array.getElem?_eq_some_iff.1 k1).1
    clear hwb hwc hzb hBb hBc k0 k1 hrow h
    unfold nv
    go_enter Try.func100, Try.ntmps100
    go_wp2_with fail
    refine (show Calls Try.prog 106 #[.slice (some ⟨g + 1 + 1, 0, none⟩) 1 1] (((w.alloc (.cells (nc s A n c) 67)).alloc (.cells #[.int .i64 s.k, i0, i0, i0, i0, .slice none 0 0] 67)).alloc (.cells #[i0] 3)) _ from ?_)
    rw [HWB.out, HWC.out]
    refine HC.out.mono ?_
    rintro e w2 ⟨b, yes, A2, c2, rfl, hO, hl, ho, hB⟩
    have m0 := (hB.block g (by omega)).trans K0.out
    have m1 := (hB.block (g + 1) (by omega)).trans K1.out
    have g0 := cell_of m0 0; have g1 := cell_of m0 1; have g2 := cell_of m0 2; have g3 := cell_of m0 3; have g4 := cell_of m0 4; have g5 := cell_of m0 5
    have d0 := cell_of m1 0; have d1 := cell_of m1 1; have d2 := cell_of m1 2; have d3 := cell_of m1 3; have d4 := cell_of m1 4; have d5 := cell_of m1 5
    have HS2 := Lib.hid (sameNode_any A none n 0 c 0 s ⟨s.k, 0, 0, 0, 0, []⟩ w2 (HS.out.below hB) (Sl.none _))
    have HO := Lib.hid hO; have HOO := Lib.hid ho; have HB2 := Lib.hid hB
    have hsz := hB.size
    have hsw := HB.out.size
    unfold nv at HS2
    clear hO ho hB m0 m1
    cases yes
    · exact absurd (show nsI [0] = none from HOO.out) (by decide)
    · go_wp2_with fail
      refine HS2.out.mono ?_
      rintro e w3 ⟨rfl, hB3⟩
      go_wp2_with fail
      go_ret2
      refine ⟨b, sameN s ⟨s.k, 0, 0, 0, 0, []⟩, A2, c2, rfl, (HO.out.below hB3).mono hsw, by omega, ?_, nx (nx HB.out HB2.out) hB3⟩
      rw [nodeB0 HKE.out, show nsI [0] = some b from HOO.out]
  · by_cases hk1 : s.k = 1
    · have t0 : (s.k == 0) = false := by rw [beq_eq_false_iff_ne]; exact hk0
      have t : (s.k == 1) = true := by rw [beq_iff_eq]; exact hk1
      have HKE := Lib.hid hk1
      clear hk0 hk1
      obtain ⟨wb, hwb⟩ : ∃ wb, (w.alloc (.cells (nc s A n c) 67)).alloc (.cells #[.int .i64 s.k, .int .i64 s.id, .int .i64 s.enc, .int .i64 s.sig, .int .i64 s.hash, .slice none 0 0] 67) = wb := ⟨_, rfl⟩
      obtain ⟨wc, hwc⟩ : ∃ wc, wb.alloc (.cells #[.int .i64 s.k, .int .i64 s.id, .int .i64 s.enc, .int .i64 s.sig, .int .i64 s.hash] 3) = wc := ⟨_, rfl⟩
      have hzb : wb.heap.size = g + 1 + 1 := by rw [← hwb]; simp [hg]
      have hBb : Below w.heap.size w wb := by rw [← hwb]; exact nxa (nxa (Below.refl _ _) _) _
      have hBc : Below w.heap.size w wc := by rw [← hwc]; exact nxa hBb _
      have k0 : wc.heap[g]? = some (.cells (nc s A n c) 67) := by
        rw [← hwc, Below.heap_alloc _ _ _ (by omega), ← hwb, Below.heap_alloc _ _ _ (by simp; omega), ← hg]; exact heap_alloc_new _ _
      have k1 : wc.heap[g + 1]? = some (.cells #[.int .i64 s.k, .int .i64 s.id, .int .i64 s.enc, .int .i64 s.sig, .int .i64 s.hash, .slice none 0 0] 67) := by
        have := heap_alloc_new (w.alloc (.cells (nc s A n c) 67)) (.cells #[.int .i64 s.k, .int .i64 s.id, .int .i64 s.enc, .int .i64 s.sig, .int .i64 s.hash, .slice none 0 0] 67)
        rw [← hwc, Below.heap_alloc _ _ _ (by omega), ← hwb]
        rwa [show (w.alloc (.cells (nc s A n c) 67)).heap.size = g + 1 by simp [hg]] at this
      have hrow : Sl wc (some ⟨g + 1 + 1, 0, none⟩) 5 5 (iv [s.k, s.id, s.enc, s.sig, s.hash]) := by
        have := Sl.lit wb [s.k, s.id, s.enc, s.sig, s.hash] #[.int .i64 s.k, .int .i64 s.id, .int .i64 s.enc, .int .i64 s.sig, .int .i64 s.hash] rfl 5 rfl (by omega)
        rwa [hwc, hzb] at this
      have HC := Lib.hid (rwints_ok (some ⟨g + 1 + 1, 0, none⟩) 5 5 [s.k, s.id, s.enc, s.sig, s.hash] wc hrow (by show _ ≤ _; omega))
      have HWB := Lib.hid hwb; have HWC := Lib.hid hwc; have HB := Lib.hid hBc; have K0 := Lib.hid k0; have K1 := Lib.hid k1; have HS := Lib.hid (h.below hBc); have HS0 := Lib.hid h
      have hgc : g + 1 < wc.heap.size := (Array.getElem?_eq_some_iff.1 k1).1
      clear hwb hwc hzb hBb hBc k0 k1 hrow h
      unfold nv
      go_enter Try.func100, Try.ntmps100
      go_wp2_with fail
      refine (show Calls Try.prog 106 #[.slice (some ⟨g + 1 + 1, 0, none⟩) 5 5] (((w.alloc (.cells (nc s A n c) 67)).alloc (.cells #[.int .i64 s.k, .int .i64 s.id, .int .i64 s.enc, .int .i64 s.sig, .int .i64 s.hash, .slice none 0 0] 67)).alloc (.cells #[.int .i64 s.k, .int .i64 s.id, .int .i64 s.enc, .int .i64 s.sig, .int .i64 s.hash] 3)) _ from ?_)
      rw [HWB.out, HWC.out]
      refine HC.out.mono ?_
      rintro e w2 ⟨b, yes, A2, c2, rfl, hO, hl, ho, hB⟩
      have m0 := (hB.block g (by omega)).trans K0.out
      have m1 := (hB.block (g + 1) (by omega)).trans K1.out
      have g0 := cell_of m0 0; have g1 := cell_of m0 1; have g2 := cell_of m0 2; have g3 := cell_of m0 3; have g4 := cell_of m0 4; have g5 := cell_of m0 5
      have d0 := cell_of m1 0; have d1 := cell_of m1 1; have d2 := cell_of m1 2; have d3 := cell_of m1 3; have d4 := cell_of m1 4; have d5 := cell_of m1 5
      have HS2 := Lib.hid (sameNode_any A none n 0 c 0 s ⟨s.k, s.id, s.enc, s.sig, s.hash, []⟩ w2 (HS.out.below hB) (Sl.none _))
      have HO := Lib.hid hO; have HOO := Lib.hid ho; have HB2 := Lib.hid hB
      have hsz := hB.size
      have hsw := HB.out.size
      unfold nv at HS2
      clear hO ho hB m0 m1
      cases yes
      · go_wp2_with fail
        go_ret2
        refine ⟨b, false, A2, c2, rfl, HO.out.mono hsw, by omega, ?_, nx HB.out HB2.out⟩
        rw [nodeB1 HKE.out, show nsI [s.k, s.id, s.enc, s.sig, s.hash] = none from HOO.out]
        simp
      · go_wp2_with fail
        refine HS2.out.mono ?_
        rintro e w3 ⟨rfl, hB3⟩
        go_wp2_with fail
        go_ret2
        refine ⟨b, sameN s ⟨s.k, s.id, s.enc, s.sig, s.hash, []⟩, A2, c2, rfl, (HO.out.below hB3).mono hsw, by omega, ?_, nx (nx HB.out HB2.out) hB3⟩
        rw [nodeB1 HKE.out, show nsI [s.k, s.id, s.enc, s.sig, s.hash] = some b from HOO.out]
    · by_cases hk2 : s.k = 2
      · have t0 : (s.k == 0) = false := by rw [beq_eq_false_iff_ne]; exact hk0
        have t1 : (s.k == 1) = false := by rw [beq_eq_false_iff_ne]; exact hk1
        have t : (s.k == 2) = true := by rw [beq_iff_eq]; exact hk2
        have HKE := Lib.hid hk2
        clear hk0 hk1 hk2
        obtain ⟨wb, hwb⟩ : ∃ wb, (w.alloc (.cells (nc s A n c) 67)).alloc (.cells #[.int .i64 s.k, i0, .int .i64 s.enc, i0, .int .i64 s.hash, .slice A n c] 67) = wb := ⟨_, rfl⟩
        obtain ⟨wc, hwc⟩ : ∃ wc, wb.alloc (.cells #[.int .i64 s.k, .int .i64 s.enc, .int .i64 s.hash] 3) = wc := ⟨_, rfl⟩
        have hzb : wb.heap.size = g + 1 + 1 := by rw [← hwb]; simp [hg]
        have hBb : Below w.heap.size w wb := by rw [← hwb]; exact nxa (nxa (Below.refl _ _) _) _
        have hBc : Below w.heap.size w wc := by rw [← hwc]; exact nxa hBb _
        have k0 : wc.heap[g]? = some (.cells (nc s A n c) 67) := by
          rw [← hwc, Below.heap_alloc _ _ _ (by omega), ← hwb, Below.heap_alloc _ _ _ (by simp; omega), ← hg]; exact heap_alloc_new _ _
        have k1 : wc.heap[g + 1]? = some (.cells #[.int .i64 s.k, i0, .int .i64 s.enc, i0, .int .i64 s.hash, .slice A n c] 67) := by
          have := heap_alloc_new (w.alloc (.cells (nc s A n c) 67)) (.cells #[.int .i64 s.k, i0, .int .i64 s.enc, i0, .int .i64 s.hash, .slice A n c] 67)
          rw [← hwc, Below.heap_alloc _ _ _ (by omega), ← hwb]
          rwa [show (w.alloc (.cells (nc s A n c) 67)).heap.size = g + 1 by simp [hg]] at this
        have hrow : Sl wc (some ⟨g + 1 + 1, 0, none⟩) 3 3 (iv [s.k, s.enc, s.hash]) := by
          have := Sl.lit wb [s.k, s.enc, s.hash] #[.int .i64 s.k, .int .i64 s.enc, .int .i64 s.hash] rfl 3 rfl (by omega)
          rwa [hwc, hzb] at this
        have HC := Lib.hid (rwints_ok (some ⟨g + 1 + 1, 0, none⟩) 3 3 [s.k, s.enc, s.hash] wc hrow (by show _ ≤ _; omega))
        have HWB := Lib.hid hwb; have HWC := Lib.hid hwc; have HB := Lib.hid hBc; have K0 := Lib.hid k0; have K1 := Lib.hid k1; have HS := Lib.hid (h.below hBc); have HS0 := Lib.hid h
        have hgc : g + 1 < wc.heap.size := (Array.getElem?_eq_some_iff.1 k1).1
        clear hwb hwc hzb hBb hBc k0 k1 hrow h
        unfold nv
        go_enter Try.func100, Try.ntmps100
        go_wp2_with fail
        refine (show Calls Try.prog 106 #[.slice (some ⟨g + 1 + 1, 0, none⟩) 3 3] (((w.alloc (.cells (nc s A n c) 67)).alloc (.cells #[.int .i64 s.k, i0, .int .i64 s.enc, i0, .int .i64 s.hash, .slice A n c] 67)).alloc (.cells #[.int .i64 s.k, .int .i64 s.enc, .int .i64 s.hash] 3)) _ from ?_)
        rw [HWB.out, HWC.out]
        refine HC.out.mono ?_
        rintro e w2 ⟨b, yes, A2, c2, rfl, hO, hl, ho, hB⟩
        have m0 := (hB.block g (by omega)).trans K0.out
        have m1 := (hB.block (g + 1) (by omega)).trans K1.out
        have g5 := cell_of m0 5
        have HC2 := Lib.hid (rwints_ok A n c s.un w2 (HS.out.below hB) (by show _ ≤ _; have := hn.out; omega))
        have HO := Lib.hid hO; have HOO := Lib.hid ho; have HB2 := Lib.hid (nx HB.out hB); have HSB := Lib.hid (HS.out.below hB)
        have M0 := Lib.hid m0; have M1 := Lib.hid m1
        have hsz := hB.size
        have hsw := HB.out.size
        clear hO ho hB m0 m1
        go_wp2_with fail
        refine HC2.out.mono ?_
        rintro e w3 ⟨b3, yes3, A3, c3, rfl, hO3, hl3, ho3, hB3⟩
        have HC3 := Lib.hid (rwvec_ok A3 c3 b3 yes3 w3 hO3.sl (by show _ < _; have := hn.out; omega) (nsI s.un) ho3)
        have m0 := (hB3.block g (by omega)).trans M0.out
        have m1 := (hB3.block (g + 1) (by omega)).trans M1.out
        have HO4 := Lib.hid (HO.out.below hB3); have HB4 := Lib.hid (nx HB2.out hB3); have HSC := Lib.hid (HSB.out.below hB3)
        have N0 := Lib.hid m0; have N1 := Lib.hid m1
        have hsz3 := hB3.size
        clear hO3 ho3 hB3 m0 m1 g5
        go_wp2_with fail
        refine HC3.out.mono ?_
        rintro e w4 ⟨b5, yes5, A5, c5, rfl, hO5, hl5, ho5, hB5⟩
        have m0 := (hB5.block g (by omega)).trans N0.out
        have m1 := (hB5.block (g + 1) (by omega)).trans N1.out
        have hOb := HO4.out.below hB5
        have hLb := hO5.lies
        have HO5 := Lib.hid ho5; have HB6 := Lib.hid (nx HB4.out hB5); have HSD := Lib.hid (HSC.out.below hB5)
        have P0 := Lib.hid m0; have P1 := Lib.hid m1
        have hsz5 := hB5.size
        have hbb : wc.heap.size ≤ w4.heap.size := by omega
        have hnn := hn.out
        have hfin : ∀ (w' : World) (A' : Option Addr) (c' : Nat) (v : Bool), Ow w' w.heap.size 5 1 A' (b.length + b5.length) c' (bv b ++ bv b5) → Below w.heap.size w w' → (yes = true → yes5 = true → v = sameN s ⟨s.k, 0, s.enc, 0, s.hash, s.un⟩) → (yes = false → v = false) → (yes5 = false → v = false) →
            PEnd (nodeB s) (4 * n + 28) w (.returned (.tuple #[.slice A' (b.length + b5.length) c', .bool v])) w' := fun w' A' c' v h1 h2 h3 h4 h5 => by
          refine ⟨b ++ b5, v, A', c', by rw [List.length_append], by rw [List.length_append, bv_append]; exact h1, by rw [List.length_append]; omega, ?_, h2⟩
          rw [nodeB2 HKE.out, show nsI [s.k, s.enc, s.hash] = if yes then some b else none from HOO.out, HO5.out]
          cases yes
          · rw [h4 rfl]; simp
          · cases yes5
            · rw [h5 rfl]; simp
            · rw [h3 rfl rfl]; rfl
        have HFIN := Lib.hid hfin
        clear hfin hO5 ho5 hB5 m0 m1
        have hM : ∀ w6, Below wc.heap.size w4 w6 → w6.heap[g]? = some (.cells (nc s A n c) 67) ∧ w6.heap[g + 1]? = some (.cells #[.int .i64 s.k, i0, .int .i64 s.enc, i0, .int .i64 s.hash, .slice A n c] 67) ∧ Below w.heap.size w w6 := fun w6 hB => ⟨(hB.block g (by omega)).trans P0.out, (hB.block (g + 1) (by omega)).trans P1.out, HB6.out.trans (hB.mono hsw)⟩
        have HM := Lib.hid hM
        clear hM
        cases yes
        · go_wp2_with (at_builtin; refine wpList_app (o := ⟨some 85, _, _, _, _, _⟩) E23 rfl rfl rfl hOb rfl hLb (by rw [bv_length, Nat.mul_one]) (bv_one _) (by unfold maxLen; omega) (by omega) hbb ?_; intro A6 c6 w6 hO6 hG6 hB6)
          go_ret2
          exact HFIN.out _ _ _ _ (hO6.mono hsw) (HM.out _ hB6).2.2 (fun e => absurd e (by decide)) (fun _ => rfl) (fun _ => rfl)
        · cases yes5
          · go_wp2_with (at_builtin; refine wpList_app (o := ⟨some 85, _, _, _, _, _⟩) E23 rfl rfl rfl hOb rfl hLb (by rw [bv_length, Nat.mul_one]) (bv_one _) (by unfold maxLen; omega) (by omega) hbb ?_; intro A6 c6 w6 hO6 hG6 hB6)
            go_ret2
            exact HFIN.out _ _ _ _ (hO6.mono hsw) (HM.out _ hB6).2.2 (fun _ e => absurd e (by decide)) (fun _ => rfl) (fun _ => rfl)
          · go_wp2_with (at_builtin; refine wpList_app (o := ⟨some 85, _, _, _, _, _⟩) E23 rfl rfl rfl hOb rfl hLb (by rw [bv_length, Nat.mul_one]) (bv_one _) (by unfold maxLen; omega) (by omega) hbb ?_; intro A6 c6 w6 hO6 hG6 hB6; have m0 := (HM.out _ hB6).1; have m1 := (HM.out _ hB6).2.1; have g0 := cell_of m0 0; have g1 := cell_of m0 1; have g2 := cell_of m0 2; have g3 := cell_of m0 3; have g4 := cell_of m0 4; have g5 := cell_of m0 5; have d0 := cell_of m1 0; have d1 := cell_of m1 1; have d2 := cell_of m1 2; have d3 := cell_of m1 3; have d4 := cell_of m1 4; have d5 := cell_of m1 5; clear m0 m1)
            have hS6 := HS0.out.below (HM.out _ hB6).2.2
            have HS2 := sameNode_any A A n n c c s ⟨s.k, 0, s.enc, 0, s.hash, s.un⟩ w6 hS6 hS6
            refine Calls.mono HS2 ?_
            rintro e w7 ⟨rfl, hB7⟩
            go_wp2_with fail
            go_ret2
            exact HFIN.out _ _ _ _ ((hO6.below hB7).mono hsw) (nx (HM.out _ hB6).2.2 hB7) (fun _ _ => rfl) (fun e => absurd e (by decide)) (fun e => absurd e (by decide))
      · have t0 : (s.k == 0) = false := by rw [beq_eq_false_iff_ne]; exact hk0
        have t1 : (s.k == 1) = false := by rw [beq_eq_false_iff_ne]; exact hk1
        have t : (s.k == 2) = false := by rw [beq_eq_false_iff_ne]; exact hk2
        have HN := Lib.hid (nodeX hk0 hk1 hk2)
        have HB : Hid (Below w.heap.size w ((w.alloc (.cells (nc s A n c) 67)).alloc (.cells #[.int .i64 s.k, i0, i0, i0, i0, .slice none 0 0] 67))) := Lib.hid (nxa (nxa (Below.refl _ _) _) _)
        clear hk0 hk1 hk2
        unfold nv
        go_enter Try.func100, Try.ntmps100
        go_wp2_with fail
        go_ret2
        exact ⟨[], false, none, 0, rfl, Ow.nil _ _ _ _, Nat.zero_le _, HN.out, HB.out⟩
end Go.Proofs.Ytjebmmmjjiomfaa

