/- The walk of the law CodecApart. -/
import Derived.Test.YtjebmmmjjiomfaaCSz
import Derived.Test.YtjebmmmjjiomfaaCComW3
import Derived.Test.YtjebmmmjjiomfaaSameW
import Derived.Test.YtjebmmmjjiomfaaCSameC
import Derived.Deep.RegionHeld3
import Derived.Deep.CutRange
import Derived.BigQuiet
namespace Go.Proofs.Ytjebmmmjjiomfaa
open Go.RowKit

theorem outC_yes {o : Option (List UInt8)} {b : List UInt8} (h : o = some b) : outC o = (b, 0) := by subst h; rfl
theorem outC_no {o : Option (List UInt8)} (h : o = none) : outC o = ([], 1) := by subst h; rfl
set_option maxRecDepth 100000 in
set_option maxHeartbeats 32000000 in
theorem codecApart_walk (A : Option Addr) (n c : Nat) (t : List TN) (B : Option Addr) (m d : Nat) (u : List TN) (x : CM) (P : CP) (y : CM) (Q : CP) (E1 : Option Addr) (n1 c1 : Nat) (v : WM) (E2 : Option Addr) (n2 c2 : Nat) (z : WM) (w : World)
    (hT : Ts w A n c t) (hU : Ts w B m d u) (hM : CMem w x P) (hN : CMem w y Q) (hV : Ts w E1 n1 c1 v.tree) (hZ : Ts w E2 n2 c2 z.tree)
    (hzt : Hid (szT t ≤ 1048576)) (hzu : Hid (szT u ≤ 1048576)) (hzx : Hid (szC x ≤ 1048576)) (hzy : Hid (szC y ≤ 1048576)) (hzv : Hid (szT v.tree ≤ 1048576)) (hzz : Hid (szT z.tree ≤ 1048576)) :
    Calls Try.prog 11 #[.slice A n c, .slice B m d, cv x P, cv y Q, wv v E1 n1 c1, wv z E2 n2 c2] w fun e w' => e = .returned (.bool true) ∧ Below w.heap.size w w' := by
  obtain ⟨g, hg⟩ : ∃ g, w.heap.size = g := ⟨_, rfl⟩
  obtain ⟨b0, hb0⟩ : ∃ b0, w.alloc (.cells (cc x P) 72) = b0 := ⟨_, rfl⟩
  have s0 : b0.heap.size = g + 1 := by rw [← hb0]; simp [hg]
  obtain ⟨b1, hb1⟩ : ∃ b1, b0.alloc (.cells (cc y Q) 72) = b1 := ⟨_, rfl⟩
  have s1 : b1.heap.size = g + 2 := by rw [← hb1]; simp [s0]
  obtain ⟨b2, hb2⟩ : ∃ b2, b1.alloc (.cells (wc v E1 n1 c1) 58) = b2 := ⟨_, rfl⟩
  have s2 : b2.heap.size = g + 3 := by rw [← hb2]; simp [s1]
  obtain ⟨b3, hb3⟩ : ∃ b3, b2.alloc (.cells (wc z E2 n2 c2) 58) = b3 := ⟨_, rfl⟩
  have s3 : b3.heap.size = g + 4 := by rw [← hb3]; simp [s2]
  have k0 : b3.heap[g + 0]? = some (.cells (cc x P) 72) := by
    have e := heap_alloc_new w (.cells (cc x P) 72)
    rw [hg, hb0] at e
    rw [← hb3, Below.heap_alloc _ _ _ (by omega)]
    rw [← hb2, Below.heap_alloc _ _ _ (by omega)]
    rw [← hb1, Below.heap_alloc _ _ _ (by omega)]
    exact e
  have k1 : b3.heap[g + 1]? = some (.cells (cc y Q) 72) := by
    have e := heap_alloc_new b0 (.cells (cc y Q) 72)
    rw [s0, hb1] at e
    rw [← hb3, Below.heap_alloc _ _ _ (by omega)]
    rw [← hb2, Below.heap_alloc _ _ _ (by omega)]
    exact e
  have k2 : b3.heap[g + 2]? = some (.cells (wc v E1 n1 c1) 58) := by
    have e := heap_alloc_new b1 (.cells (wc v E1 n1 c1) 58)
    rw [s1, hb2] at e
    rw [← hb3, Below.heap_alloc _ _ _ (by omega)]
    exact e
  have k3 : b3.heap[g + 3]? = some (.cells (wc z E2 n2 c2) 58) := by
    have e := heap_alloc_new b2 (.cells (wc z E2 n2 c2) 58)
    rw [s2, hb3] at e
    exact e
  rw [Nat.add_zero] at k0
  obtain ⟨wb, hwb⟩ : ∃ wb, b3 = wb := ⟨_, rfl⟩
  have hBb : Below w.heap.size w wb := by rw [← hwb, ← hb3, ← hb2, ← hb1, ← hb0]; exact nxa (nxa (nxa (nxa (Below.refl _ _) _) _) _) _
  have hWB : (((w.alloc (.cells (cc x P) 72)).alloc (.cells (cc y Q) 72)).alloc (.cells (wc v E1 n1 c1) 58)).alloc (.cells (wc z E2 n2 c2) 58) = wb := by rw [hb0, hb1, hb2, hb3, hwb]
  rw [hwb] at k0 k1 k2 k3
  have HG1 : Hid (g + 3 < wb.heap.size) := Lib.hid (Array.getElem?_eq_some_iff.1 k3).1
  have HL := Lib.hid (clive_ok wb)
  have HT := Lib.hid (hT.below hBb); have HU := Lib.hid (hU.below hBb); have HM := Lib.hid (hM.below hBb); have HN := Lib.hid (hN.below hBb); have HV := Lib.hid (hV.below hBb); have HZ := Lib.hid (hZ.below hBb)
  have HWB := Lib.hid hWB; have HB0 := Lib.hid hBb; have K0 := Lib.hid k0; have K1 := Lib.hid k1; have K2 := Lib.hid k2; have K3 := Lib.hid k3
  clear hWB hwb hBb k0 k1 k2 k3 hT hU hM hN hV hZ hb0 hb1 hb2 hb3 s0 s1 s2 s3 b0 b1 b2 b3
  unfold cv wv
  go_enter Try.func11, Try.ntmps11
  go_wp2_with fail
  rw [HWB.out]
  refine HL.out.mono ?_
  rintro e w1 ⟨rfl, hB1⟩
  have HB := Lib.hid hB1
  clear hB1
  have HG := Lib.hid (bigT_ok A n c t w1 (HT.out.below HB.out) hzt)
  by_cases hb : 5000 < szT t
  case pos =>
    rw [decide_eq_true hb] at HG
    clear hb
    go_wp2_with fail
    refine HG.out.mono ?_
    rintro e w2 ⟨rfl, hB2⟩
    go_wp2_with fail
    go_ret
    exact ⟨rfl, nx HB0.out (nx HB.out hB2)⟩
  rw [decide_eq_false hb] at HG
  have HBt : Hid (szT t ≤ 5000) := Lib.hid (by show _ ≤ _; omega)
  clear hb
  go_wp2_with fail
  refine HG.out.mono ?_
  rintro e w2 ⟨rfl, hB2⟩
  replace HB := Lib.hid (nx HB.out hB2)
  clear HG hB2
  have HG := Lib.hid (bigT_ok B m d u w2 (HU.out.below HB.out) hzu)
  by_cases hb : 5000 < szT u
  case pos =>
    rw [decide_eq_true hb] at HG
    clear hb
    go_wp2_with fail
    refine HG.out.mono ?_
    rintro e w3 ⟨rfl, hB2⟩
    go_wp2_with fail
    go_ret
    exact ⟨rfl, nx HB0.out (nx HB.out hB2)⟩
  rw [decide_eq_false hb] at HG
  have HBu : Hid (szT u ≤ 5000) := Lib.hid (by show _ ≤ _; omega)
  clear hb
  go_wp2_with fail
  refine HG.out.mono ?_
  rintro e w3 ⟨rfl, hB2⟩
  replace HB := Lib.hid (nx HB.out hB2)
  clear HG hB2
  have m0 := (HB.out.block g (by have := HG1.out; omega)).trans K0.out
  have a0 := cell_of m0 0; have a1 := cell_of m0 1; have a2 := cell_of m0 2; have a3 := cell_of m0 3; have a4 := cell_of m0 4; have a5 := cell_of m0 5; have a6 := cell_of m0 6; have a7 := cell_of m0 7; have a8 := cell_of m0 8; have a9 := cell_of m0 9; have a10 := cell_of m0 10; have a11 := cell_of m0 11; have a12 := cell_of m0 12
  have HG := Lib.hid (bigC_ok x P w3 (HM.out.below HB.out) hzx)
  unfold cv at HG
  clear m0
  by_cases hb : 5000 < szC x
  case pos =>
    rw [decide_eq_true hb] at HG
    clear hb
    go_wp2_with fail
    refine HG.out.mono ?_
    rintro e w4 ⟨rfl, hB2⟩
    clear a0 a1 a2 a3 a4 a5 a6 a7 a8 a9 a10 a11 a12
    go_wp2_with fail
    go_ret
    exact ⟨rfl, nx HB0.out (nx HB.out hB2)⟩
  rw [decide_eq_false hb] at HG
  have HBx : Hid (szC x ≤ 5000) := Lib.hid (by show _ ≤ _; omega)
  clear hb
  go_wp2_with fail
  refine HG.out.mono ?_
  rintro e w4 ⟨rfl, hB2⟩
  replace HB := Lib.hid (nx HB.out hB2)
  clear HG hB2 a0 a1 a2 a3 a4 a5 a6 a7 a8 a9 a10 a11 a12
  have m0 := (HB.out.block (g + 1) (by have := HG1.out; omega)).trans K1.out
  have a0 := cell_of m0 0; have a1 := cell_of m0 1; have a2 := cell_of m0 2; have a3 := cell_of m0 3; have a4 := cell_of m0 4; have a5 := cell_of m0 5; have a6 := cell_of m0 6; have a7 := cell_of m0 7; have a8 := cell_of m0 8; have a9 := cell_of m0 9; have a10 := cell_of m0 10; have a11 := cell_of m0 11; have a12 := cell_of m0 12
  have HG := Lib.hid (bigC_ok y Q w4 (HN.out.below HB.out) hzy)
  unfold cv at HG
  clear m0
  by_cases hb : 5000 < szC y
  case pos =>
    rw [decide_eq_true hb] at HG
    clear hb
    go_wp2_with fail
    refine HG.out.mono ?_
    rintro e w5 ⟨rfl, hB2⟩
    clear a0 a1 a2 a3 a4 a5 a6 a7 a8 a9 a10 a11 a12
    go_wp2_with fail
    go_ret
    exact ⟨rfl, nx HB0.out (nx HB.out hB2)⟩
  rw [decide_eq_false hb] at HG
  have HBy : Hid (szC y ≤ 5000) := Lib.hid (by show _ ≤ _; omega)
  clear hb
  go_wp2_with fail
  refine HG.out.mono ?_
  rintro e w5 ⟨rfl, hB2⟩
  replace HB := Lib.hid (nx HB.out hB2)
  clear HG hB2 a0 a1 a2 a3 a4 a5 a6 a7 a8 a9 a10 a11 a12
  have m0 := (HB.out.block (g + 2) (by have := HG1.out; omega)).trans K2.out
  have a4 := cell_of m0 4
  have HG := Lib.hid (bigT_ok E1 n1 c1 v.tree w5 (HV.out.below HB.out) hzv)
  clear m0
  by_cases hb : 5000 < szT v.tree
  case pos =>
    rw [decide_eq_true hb] at HG
    clear hb
    go_wp2_with fail
    refine HG.out.mono ?_
    rintro e w6 ⟨rfl, hB2⟩
    clear a4
    go_wp2_with fail
    go_ret
    exact ⟨rfl, nx HB0.out (nx HB.out hB2)⟩
  rw [decide_eq_false hb] at HG
  have HBv : Hid (szT v.tree ≤ 5000) := Lib.hid (by show _ ≤ _; omega)
  clear hb
  go_wp2_with fail
  refine HG.out.mono ?_
  rintro e w6 ⟨rfl, hB2⟩
  replace HB := Lib.hid (nx HB.out hB2)
  clear HG hB2 a4
  have m0 := (HB.out.block (g + 3) (by have := HG1.out; omega)).trans K3.out
  have a4 := cell_of m0 4
  have HG := Lib.hid (bigT_ok E2 n2 c2 z.tree w6 (HZ.out.below HB.out) hzz)
  clear m0
  by_cases hb : 5000 < szT z.tree
  case pos =>
    rw [decide_eq_true hb] at HG
    clear hb
    go_wp2_with fail
    refine HG.out.mono ?_
    rintro e w7 ⟨rfl, hB2⟩
    clear a4
    go_wp2_with fail
    go_ret
    exact ⟨rfl, nx HB0.out (nx HB.out hB2)⟩
  rw [decide_eq_false hb] at HG
  have HBz : Hid (szT z.tree ≤ 5000) := Lib.hid (by show _ ≤ _; omega)
  clear hb
  go_wp2_with fail
  refine HG.out.mono ?_
  rintro e w7 ⟨rfl, hB2⟩
  replace HB := Lib.hid (nx HB.out hB2)
  clear HG hB2 a4
  have HW := Lib.hid (tree_ok A n c t w7 (HT.out.below HB.out) (few_szT hzt.out))
  go_wp2_with fail
  refine HW.out.mono ?_
  rintro e p0 hE
  obtain ⟨D00, d00, rfl, hS, hB1⟩ := hE.one
  replace HB := Lib.hid (nx HB.out hB1)
  have HS0 := Lib.hid hS
  clear HW hE hS
  clear hB1
  have HW := Lib.hid (tree_ok B m d u p0 (HU.out.below HB.out) (few_szT hzu.out))
  go_wp2_with fail
  refine HW.out.mono ?_
  rintro e q0 hE
  obtain ⟨D10, d10, rfl, hS, hB1⟩ := hE.one
  replace HB := Lib.hid (nx HB.out hB1)
  have HS1 := Lib.hid hS
  clear HW hE hS
  replace HS0 := Lib.hid (HS0.out.below hB1)
  clear hB1
  obtain ⟨o1, ho1⟩ : ∃ o, outC (treeB t) = o := ⟨_, rfl⟩
  obtain ⟨o2, ho2⟩ : ∃ o, outC (treeB u) = o := ⟨_, rfl⟩
  rw [ho1] at HS0
  rw [ho2] at HS1
  rw [ho1, ho2]
  have HO1 := Lib.hid ho1; have HO2 := Lib.hid ho2
  clear ho1 ho2
  go_wp2_with fail
  go_cut [70] from 14 to 69 (fun r wx => r = .bool false ∧ Below wb.heap.size wb wx)
  case first =>
    rcases h1 : treeB t with _ | a
    · obtain rfl : o1 = ([], 1) := by rw [← HO1.out, h1]; rfl
      clear h1 HO1 HO2
      go_quiet (fail)
      go_wp2_with fail
      go_meet
      exact ⟨rfl, below_drewN HB.out _⟩
    rcases h2 : treeB u with _ | b
    · obtain rfl : o1 = (a, 0) := by rw [← HO1.out, h1]; rfl
      obtain rfl : o2 = ([], 1) := by rw [← HO2.out, h2]; rfl
      clear h1 h2 HO1 HO2
      go_quiet (fail)
      go_wp2_with fail
      go_meet
      exact ⟨rfl, below_drewN HB.out _⟩
    obtain rfl : o1 = (a, 0) := by rw [← HO1.out, h1]; rfl
    obtain rfl : o2 = (b, 0) := by rw [← HO2.out, h2]; rfl
    have hab := apart_iff fw_tree h1 h2
    clear h1 h2 HO1 HO2
    have HA : Hid (Sl q0 D00 a.length d00 (bv a)) := HS0
    have HBb : Hid (Sl q0 D10 b.length d10 (bv b)) := HS1
    have HBD : Hid (Below wb.heap.size wb (q0.drewN 1)) := Lib.hid (below_drewN HB.out 1)
    have HSM := Lib.hid (rsame_any A B n m c d t u _ (HT.out.below HBD.out) (HU.out.below HBD.out))
    clear HS0 HS1
    by_cases htu : t = u
    · have hb : a = b := hab.2 htu
      subst hb
      rw [decide_eq_true htu] at HSM
      clear htu hab
      have q1 := (HA.out.drewN 1).str (P := Try.prog) Try.underlying23 Try.underlying5 Try.underlying9
      have q2 := (HBb.out.drewN 1).str (P := Try.prog) Try.underlying23 Try.underlying5 Try.underlying9

      go_region_held3 (fun w' => (convert 23 9 (.slice D00 a.length d00)).run Try.prog w' = .ok (.string ⟨a.toArray⟩) w' ∧ (convert 23 9 (.slice D10 a.length d10)).run Try.prog w' = .ok (.string ⟨a.toArray⟩) w') (first | exact ⟨q1, q2⟩ | exact ⟨r1, r2⟩) (first
        | (go_at_call 38; refine HSM.out.mono ?_; rintro e w4 ⟨rfl, hB4⟩; have r1 := ((HA.out.drewN 1).below hB4).str (P := Try.prog) Try.underlying23 Try.underlying5 Try.underlying9; have r2 := ((HBb.out.drewN 1).below hB4).str (P := Try.prog) Try.underlying23 Try.underlying5 Try.underlying9))
      all_goals
        go_wp2_with fail
        go_meet
        exact ⟨rfl, nx HBD.out hB4⟩
    · have hb : ¬ a = b := fun e => htu (hab.1 e)
      rw [decide_eq_false htu] at HSM
      have t5 : (a == b) = false := by rw [beq_eq_false_iff_ne]; exact hb
      clear htu hab
      have q1 := (HA.out.drewN 1).str (P := Try.prog) Try.underlying23 Try.underlying5 Try.underlying9
      have q2 := (HBb.out.drewN 1).str (P := Try.prog) Try.underlying23 Try.underlying5 Try.underlying9

      go_region_held3 (fun w' => (convert 23 9 (.slice D00 a.length d00)).run Try.prog w' = .ok (.string ⟨a.toArray⟩) w' ∧ (convert 23 9 (.slice D10 b.length d10)).run Try.prog w' = .ok (.string ⟨b.toArray⟩) w') (first | exact ⟨q1, q2⟩ | exact ⟨r1, r2⟩) (first
        | (go_at_call 38; refine HSM.out.mono ?_; rintro e w4 ⟨rfl, hB4⟩; have r1 := ((HA.out.drewN 1).below hB4).str (P := Try.prog) Try.underlying23 Try.underlying5 Try.underlying9; have r2 := ((HBb.out.drewN 1).below hB4).str (P := Try.prog) Try.underlying23 Try.underlying5 Try.underlying9))
      all_goals
        go_wp2_with fail
        go_meet
        exact ⟨rfl, nx HBD.out hB4⟩
  case rest =>
    obtain ⟨rfl, hBc⟩ := hcut
    replace HB := Lib.hid hBc
    clear hBc HS0 HS1 HO1 HO2
    have m0 := (HB.out.block (g) (by have := HG1.out; omega)).trans K0.out
    have a0 := cell_of m0 0; have a1 := cell_of m0 1; have a2 := cell_of m0 2; have a3 := cell_of m0 3; have a4 := cell_of m0 4; have a5 := cell_of m0 5; have a6 := cell_of m0 6; have a7 := cell_of m0 7; have a8 := cell_of m0 8; have a9 := cell_of m0 9; have a10 := cell_of m0 10; have a11 := cell_of m0 11; have a12 := cell_of m0 12
    have HW := Lib.hid (commit_ok x P wc (HM.out.below HB.out) hzx)
    unfold cv at HW
    clear m0
    go_wp2_with fail
    clear a0 a1 a2 a3 a4 a5 a6 a7 a8 a9 a10 a11 a12
    refine HW.out.mono ?_
    rintro e p1 hE
    obtain ⟨D01, d01, rfl, hS, hB1⟩ := hE.one
    replace HB := Lib.hid (nx HB.out hB1)
    have HS0 := Lib.hid hS
    clear HW hE hS
    clear hB1
    have m0 := (HB.out.block (g + 1) (by have := HG1.out; omega)).trans K1.out
    have a0 := cell_of m0 0; have a1 := cell_of m0 1; have a2 := cell_of m0 2; have a3 := cell_of m0 3; have a4 := cell_of m0 4; have a5 := cell_of m0 5; have a6 := cell_of m0 6; have a7 := cell_of m0 7; have a8 := cell_of m0 8; have a9 := cell_of m0 9; have a10 := cell_of m0 10; have a11 := cell_of m0 11; have a12 := cell_of m0 12
    have HW := Lib.hid (commit_ok y Q p1 (HN.out.below HB.out) hzy)
    unfold cv at HW
    clear m0
    go_wp2_with fail
    clear a0 a1 a2 a3 a4 a5 a6 a7 a8 a9 a10 a11 a12
    refine HW.out.mono ?_
    rintro e q1 hE
    obtain ⟨D11, d11, rfl, hS, hB1⟩ := hE.one
    replace HB := Lib.hid (nx HB.out hB1)
    have HS1 := Lib.hid hS
    clear HW hE hS
    replace HS0 := Lib.hid (HS0.out.below hB1)
    clear hB1
    obtain ⟨o1, ho1⟩ : ∃ o, outC (commitB x) = o := ⟨_, rfl⟩
    obtain ⟨o2, ho2⟩ : ∃ o, outC (commitB y) = o := ⟨_, rfl⟩
    rw [ho1] at HS0
    rw [ho2] at HS1
    rw [ho1, ho2]
    have HO1 := Lib.hid ho1; have HO2 := Lib.hid ho2
    clear ho1 ho2
    go_wp2_with fail
    go_cut [97] from 14 to 96 (fun r wx => r = .bool false ∧ Below wb.heap.size wb wx)
    case first =>
      rcases h1 : commitB x with _ | a
      · obtain rfl : o1 = ([], 1) := by rw [← HO1.out, h1]; rfl
        clear h1 HO1 HO2
        go_quiet (fail)
        go_wp2_with fail
        go_meet
        exact ⟨rfl, below_drewN HB.out _⟩
      rcases h2 : commitB y with _ | b
      · obtain rfl : o1 = (a, 0) := by rw [← HO1.out, h1]; rfl
        obtain rfl : o2 = ([], 1) := by rw [← HO2.out, h2]; rfl
        clear h1 h2 HO1 HO2
        go_quiet (fail)
        go_wp2_with fail
        go_meet
        exact ⟨rfl, below_drewN HB.out _⟩
      obtain rfl : o1 = (a, 0) := by rw [← HO1.out, h1]; rfl
      obtain rfl : o2 = (b, 0) := by rw [← HO2.out, h2]; rfl
      have hab := apart_iff fw_commit h1 h2
      clear h1 h2 HO1 HO2
      have HA : Hid (Sl q1 D01 a.length d01 (bv a)) := HS0
      have HBb : Hid (Sl q1 D11 b.length d11 (bv b)) := HS1
      have HBD : Hid (Below wb.heap.size wb (q1.drewN 1)) := Lib.hid (below_drewN HB.out 1)
      have HSM := Lib.hid (samecommit_any x y P Q _ (HM.out.below HBD.out) (HN.out.below HBD.out))
      unfold cv at HSM
      clear HS0 HS1
      by_cases htu : x = y
      · have hb : a = b := hab.2 htu
        subst hb
        rw [decide_eq_true htu] at HSM
        clear htu hab
        have q1 := (HA.out.drewN 1).str (P := Try.prog) Try.underlying23 Try.underlying5 Try.underlying9
        have q2 := (HBb.out.drewN 1).str (P := Try.prog) Try.underlying23 Try.underlying5 Try.underlying9
        have m0 := (HBD.out.block (g) (by have := HG1.out; omega)).trans K0.out
        have a0_0 := cell_of m0 0
        have a0_1 := cell_of m0 1
        have a0_2 := cell_of m0 2
        have a0_3 := cell_of m0 3
        have a0_4 := cell_of m0 4
        have a0_5 := cell_of m0 5
        have a0_6 := cell_of m0 6
        have a0_7 := cell_of m0 7
        have a0_8 := cell_of m0 8
        have a0_9 := cell_of m0 9
        have a0_10 := cell_of m0 10
        have a0_11 := cell_of m0 11
        have a0_12 := cell_of m0 12
        have m1 := (HBD.out.block (g + 1) (by have := HG1.out; omega)).trans K1.out
        have a1_0 := cell_of m1 0
        have a1_1 := cell_of m1 1
        have a1_2 := cell_of m1 2
        have a1_3 := cell_of m1 3
        have a1_4 := cell_of m1 4
        have a1_5 := cell_of m1 5
        have a1_6 := cell_of m1 6
        have a1_7 := cell_of m1 7
        have a1_8 := cell_of m1 8
        have a1_9 := cell_of m1 9
        have a1_10 := cell_of m1 10
        have a1_11 := cell_of m1 11
        have a1_12 := cell_of m1 12
        go_region_held3 (fun w' => (convert 23 9 (.slice D01 a.length d01)).run Try.prog w' = .ok (.string ⟨a.toArray⟩) w' ∧ (convert 23 9 (.slice D11 a.length d11)).run Try.prog w' = .ok (.string ⟨a.toArray⟩) w' ∧ w'.cell? ⟨g, 0, none⟩ = some (.int .i64 x.by_) ∧ w'.cell? ⟨g, 1, none⟩ = some (.int .i64 x.epoch) ∧ w'.cell? ⟨g, 2, none⟩ = some (.slice P.pA P.pn P.pc) ∧ w'.cell? ⟨g, 3, none⟩ = some (.bool x.has) ∧ w'.cell? ⟨g, 4, none⟩ = some (.int .i64 x.leaf.k) ∧ w'.cell? ⟨g, 5, none⟩ = some (.int .i64 x.leaf.id) ∧ w'.cell? ⟨g, 6, none⟩ = some (.int .i64 x.leaf.enc) ∧ w'.cell? ⟨g, 7, none⟩ = some (.int .i64 x.leaf.sig) ∧ w'.cell? ⟨g, 8, none⟩ = some (.int .i64 x.leaf.hash) ∧ w'.cell? ⟨g, 9, none⟩ = some (.slice P.lA P.ln P.lc) ∧ w'.cell? ⟨g, 10, none⟩ = some (.slice P.nA P.nn P.nc) ∧ w'.cell? ⟨g, 11, none⟩ = some (.int .i64 x.sig) ∧ w'.cell? ⟨g, 12, none⟩ = some (.int .i64 x.tag) ∧ w'.cell? ⟨g + 1, 0, none⟩ = some (.int .i64 y.by_) ∧ w'.cell? ⟨g + 1, 1, none⟩ = some (.int .i64 y.epoch) ∧ w'.cell? ⟨g + 1, 2, none⟩ = some (.slice Q.pA Q.pn Q.pc) ∧ w'.cell? ⟨g + 1, 3, none⟩ = some (.bool y.has) ∧ w'.cell? ⟨g + 1, 4, none⟩ = some (.int .i64 y.leaf.k) ∧ w'.cell? ⟨g + 1, 5, none⟩ = some (.int .i64 y.leaf.id) ∧ w'.cell? ⟨g + 1, 6, none⟩ = some (.int .i64 y.leaf.enc) ∧ w'.cell? ⟨g + 1, 7, none⟩ = some (.int .i64 y.leaf.sig) ∧ w'.cell? ⟨g + 1, 8, none⟩ = some (.int .i64 y.leaf.hash) ∧ w'.cell? ⟨g + 1, 9, none⟩ = some (.slice Q.lA Q.ln Q.lc) ∧ w'.cell? ⟨g + 1, 10, none⟩ = some (.slice Q.nA Q.nn Q.nc) ∧ w'.cell? ⟨g + 1, 11, none⟩ = some (.int .i64 y.sig) ∧ w'.cell? ⟨g + 1, 12, none⟩ = some (.int .i64 y.tag)) (first | exact ⟨q1, q2, a0_0, a0_1, a0_2, a0_3, a0_4, a0_5, a0_6, a0_7, a0_8, a0_9, a0_10, a0_11, a0_12, a1_0, a1_1, a1_2, a1_3, a1_4, a1_5, a1_6, a1_7, a1_8, a1_9, a1_10, a1_11, a1_12⟩ | exact ⟨r1, r2, b0_0, b0_1, b0_2, b0_3, b0_4, b0_5, b0_6, b0_7, b0_8, b0_9, b0_10, b0_11, b0_12, b1_0, b1_1, b1_2, b1_3, b1_4, b1_5, b1_6, b1_7, b1_8, b1_9, b1_10, b1_11, b1_12⟩) (first
          | (go_at_call 47; refine HSM.out.mono ?_; rintro e w4 ⟨rfl, hB4⟩; have r1 := ((HA.out.drewN 1).below hB4).str (P := Try.prog) Try.underlying23 Try.underlying5 Try.underlying9; have r2 := ((HBb.out.drewN 1).below hB4).str (P := Try.prog) Try.underlying23 Try.underlying5 Try.underlying9; have m0_ := (hB4.block (g) (by have := HBD.out.size; have := HG1.out; omega)).trans m0; have b0_0 := cell_of m0_ 0; have b0_1 := cell_of m0_ 1; have b0_2 := cell_of m0_ 2; have b0_3 := cell_of m0_ 3; have b0_4 := cell_of m0_ 4; have b0_5 := cell_of m0_ 5; have b0_6 := cell_of m0_ 6; have b0_7 := cell_of m0_ 7; have b0_8 := cell_of m0_ 8; have b0_9 := cell_of m0_ 9; have b0_10 := cell_of m0_ 10; have b0_11 := cell_of m0_ 11; have b0_12 := cell_of m0_ 12; have m1_ := (hB4.block (g + 1) (by have := HBD.out.size; have := HG1.out; omega)).trans m1; have b1_0 := cell_of m1_ 0; have b1_1 := cell_of m1_ 1; have b1_2 := cell_of m1_ 2; have b1_3 := cell_of m1_ 3; have b1_4 := cell_of m1_ 4; have b1_5 := cell_of m1_ 5; have b1_6 := cell_of m1_ 6; have b1_7 := cell_of m1_ 7; have b1_8 := cell_of m1_ 8; have b1_9 := cell_of m1_ 9; have b1_10 := cell_of m1_ 10; have b1_11 := cell_of m1_ 11; have b1_12 := cell_of m1_ 12))
        all_goals
          go_wp2_with fail
          go_meet
          exact ⟨rfl, nx HBD.out hB4⟩
      · have hb : ¬ a = b := fun e => htu (hab.1 e)
        rw [decide_eq_false htu] at HSM
        have t5 : (a == b) = false := by rw [beq_eq_false_iff_ne]; exact hb
        clear htu hab
        have q1 := (HA.out.drewN 1).str (P := Try.prog) Try.underlying23 Try.underlying5 Try.underlying9
        have q2 := (HBb.out.drewN 1).str (P := Try.prog) Try.underlying23 Try.underlying5 Try.underlying9
        have m0 := (HBD.out.block (g) (by have := HG1.out; omega)).trans K0.out
        have a0_0 := cell_of m0 0
        have a0_1 := cell_of m0 1
        have a0_2 := cell_of m0 2
        have a0_3 := cell_of m0 3
        have a0_4 := cell_of m0 4
        have a0_5 := cell_of m0 5
        have a0_6 := cell_of m0 6
        have a0_7 := cell_of m0 7
        have a0_8 := cell_of m0 8
        have a0_9 := cell_of m0 9
        have a0_10 := cell_of m0 10
        have a0_11 := cell_of m0 11
        have a0_12 := cell_of m0 12
        have m1 := (HBD.out.block (g + 1) (by have := HG1.out; omega)).trans K1.out
        have a1_0 := cell_of m1 0
        have a1_1 := cell_of m1 1
        have a1_2 := cell_of m1 2
        have a1_3 := cell_of m1 3
        have a1_4 := cell_of m1 4
        have a1_5 := cell_of m1 5
        have a1_6 := cell_of m1 6
        have a1_7 := cell_of m1 7
        have a1_8 := cell_of m1 8
        have a1_9 := cell_of m1 9
        have a1_10 := cell_of m1 10
        have a1_11 := cell_of m1 11
        have a1_12 := cell_of m1 12
        go_region_held3 (fun w' => (convert 23 9 (.slice D01 a.length d01)).run Try.prog w' = .ok (.string ⟨a.toArray⟩) w' ∧ (convert 23 9 (.slice D11 b.length d11)).run Try.prog w' = .ok (.string ⟨b.toArray⟩) w' ∧ w'.cell? ⟨g, 0, none⟩ = some (.int .i64 x.by_) ∧ w'.cell? ⟨g, 1, none⟩ = some (.int .i64 x.epoch) ∧ w'.cell? ⟨g, 2, none⟩ = some (.slice P.pA P.pn P.pc) ∧ w'.cell? ⟨g, 3, none⟩ = some (.bool x.has) ∧ w'.cell? ⟨g, 4, none⟩ = some (.int .i64 x.leaf.k) ∧ w'.cell? ⟨g, 5, none⟩ = some (.int .i64 x.leaf.id) ∧ w'.cell? ⟨g, 6, none⟩ = some (.int .i64 x.leaf.enc) ∧ w'.cell? ⟨g, 7, none⟩ = some (.int .i64 x.leaf.sig) ∧ w'.cell? ⟨g, 8, none⟩ = some (.int .i64 x.leaf.hash) ∧ w'.cell? ⟨g, 9, none⟩ = some (.slice P.lA P.ln P.lc) ∧ w'.cell? ⟨g, 10, none⟩ = some (.slice P.nA P.nn P.nc) ∧ w'.cell? ⟨g, 11, none⟩ = some (.int .i64 x.sig) ∧ w'.cell? ⟨g, 12, none⟩ = some (.int .i64 x.tag) ∧ w'.cell? ⟨g + 1, 0, none⟩ = some (.int .i64 y.by_) ∧ w'.cell? ⟨g + 1, 1, none⟩ = some (.int .i64 y.epoch) ∧ w'.cell? ⟨g + 1, 2, none⟩ = some (.slice Q.pA Q.pn Q.pc) ∧ w'.cell? ⟨g + 1, 3, none⟩ = some (.bool y.has) ∧ w'.cell? ⟨g + 1, 4, none⟩ = some (.int .i64 y.leaf.k) ∧ w'.cell? ⟨g + 1, 5, none⟩ = some (.int .i64 y.leaf.id) ∧ w'.cell? ⟨g + 1, 6, none⟩ = some (.int .i64 y.leaf.enc) ∧ w'.cell? ⟨g + 1, 7, none⟩ = some (.int .i64 y.leaf.sig) ∧ w'.cell? ⟨g + 1, 8, none⟩ = some (.int .i64 y.leaf.hash) ∧ w'.cell? ⟨g + 1, 9, none⟩ = some (.slice Q.lA Q.ln Q.lc) ∧ w'.cell? ⟨g + 1, 10, none⟩ = some (.slice Q.nA Q.nn Q.nc) ∧ w'.cell? ⟨g + 1, 11, none⟩ = some (.int .i64 y.sig) ∧ w'.cell? ⟨g + 1, 12, none⟩ = some (.int .i64 y.tag)) (first | exact ⟨q1, q2, a0_0, a0_1, a0_2, a0_3, a0_4, a0_5, a0_6, a0_7, a0_8, a0_9, a0_10, a0_11, a0_12, a1_0, a1_1, a1_2, a1_3, a1_4, a1_5, a1_6, a1_7, a1_8, a1_9, a1_10, a1_11, a1_12⟩ | exact ⟨r1, r2, b0_0, b0_1, b0_2, b0_3, b0_4, b0_5, b0_6, b0_7, b0_8, b0_9, b0_10, b0_11, b0_12, b1_0, b1_1, b1_2, b1_3, b1_4, b1_5, b1_6, b1_7, b1_8, b1_9, b1_10, b1_11, b1_12⟩) (first
          | (go_at_call 47; refine HSM.out.mono ?_; rintro e w4 ⟨rfl, hB4⟩; have r1 := ((HA.out.drewN 1).below hB4).str (P := Try.prog) Try.underlying23 Try.underlying5 Try.underlying9; have r2 := ((HBb.out.drewN 1).below hB4).str (P := Try.prog) Try.underlying23 Try.underlying5 Try.underlying9; have m0_ := (hB4.block (g) (by have := HBD.out.size; have := HG1.out; omega)).trans m0; have b0_0 := cell_of m0_ 0; have b0_1 := cell_of m0_ 1; have b0_2 := cell_of m0_ 2; have b0_3 := cell_of m0_ 3; have b0_4 := cell_of m0_ 4; have b0_5 := cell_of m0_ 5; have b0_6 := cell_of m0_ 6; have b0_7 := cell_of m0_ 7; have b0_8 := cell_of m0_ 8; have b0_9 := cell_of m0_ 9; have b0_10 := cell_of m0_ 10; have b0_11 := cell_of m0_ 11; have b0_12 := cell_of m0_ 12; have m1_ := (hB4.block (g + 1) (by have := HBD.out.size; have := HG1.out; omega)).trans m1; have b1_0 := cell_of m1_ 0; have b1_1 := cell_of m1_ 1; have b1_2 := cell_of m1_ 2; have b1_3 := cell_of m1_ 3; have b1_4 := cell_of m1_ 4; have b1_5 := cell_of m1_ 5; have b1_6 := cell_of m1_ 6; have b1_7 := cell_of m1_ 7; have b1_8 := cell_of m1_ 8; have b1_9 := cell_of m1_ 9; have b1_10 := cell_of m1_ 10; have b1_11 := cell_of m1_ 11; have b1_12 := cell_of m1_ 12))
        all_goals
          go_wp2_with fail
          go_meet
          exact ⟨rfl, nx HBD.out hB4⟩
    case rest =>
      obtain ⟨rfl, hBc⟩ := hcut
      replace HB := Lib.hid hBc
      clear hBc HS0 HS1 HO1 HO2
      have m0 := (HB.out.block (g + 2) (by have := HG1.out; omega)).trans K2.out
      have a0 := cell_of m0 0; have a1 := cell_of m0 1; have a2 := cell_of m0 2; have a3 := cell_of m0 3; have a4 := cell_of m0 4; have a5 := cell_of m0 5; have a6 := cell_of m0 6; have a7 := cell_of m0 7; have a8 := cell_of m0 8; have a9 := cell_of m0 9
      have HW := Lib.hid (welcome_ok E1 n1 c1 v wc (HV.out.below HB.out) (few_szT hzv.out))
      unfold wv at HW
      clear m0
      go_wp2_with fail
      clear a0 a1 a2 a3 a4 a5 a6 a7 a8 a9
      refine HW.out.mono ?_
      rintro e p2 hE
      obtain ⟨D02, d02, rfl, hS, hB1⟩ := hE.one
      replace HB := Lib.hid (nx HB.out hB1)
      have HS0 := Lib.hid hS
      clear HW hE hS
      clear hB1
      have m0 := (HB.out.block (g + 3) (by have := HG1.out; omega)).trans K3.out
      have a0 := cell_of m0 0; have a1 := cell_of m0 1; have a2 := cell_of m0 2; have a3 := cell_of m0 3; have a4 := cell_of m0 4; have a5 := cell_of m0 5; have a6 := cell_of m0 6; have a7 := cell_of m0 7; have a8 := cell_of m0 8; have a9 := cell_of m0 9
      have HW := Lib.hid (welcome_ok E2 n2 c2 z p2 (HZ.out.below HB.out) (few_szT hzz.out))
      unfold wv at HW
      clear m0
      go_wp2_with fail
      clear a0 a1 a2 a3 a4 a5 a6 a7 a8 a9
      refine HW.out.mono ?_
      rintro e q2 hE
      obtain ⟨D12, d12, rfl, hS, hB1⟩ := hE.one
      replace HB := Lib.hid (nx HB.out hB1)
      have HS1 := Lib.hid hS
      clear HW hE hS
      replace HS0 := Lib.hid (HS0.out.below hB1)
      clear hB1
      obtain ⟨o1, ho1⟩ : ∃ o, outC (welcomeB v) = o := ⟨_, rfl⟩
      obtain ⟨o2, ho2⟩ : ∃ o, outC (welcomeB z) = o := ⟨_, rfl⟩
      rw [ho1] at HS0
      rw [ho2] at HS1
      rw [ho1, ho2]
      have HO1 := Lib.hid ho1; have HO2 := Lib.hid ho2
      clear ho1 ho2
      go_wp2_with fail
      rcases h1 : welcomeB v with _ | a
      · obtain rfl : o1 = ([], 1) := by rw [← HO1.out, h1]; rfl
        clear h1 HO1 HO2
        go_quiet (fail)
        go_wp2_with fail
        go_ret
        exact ⟨rfl, by first | exact nx HB0.out (below_drewN HB.out _) | (rw [← hg]; exact nx HB0.out (below_drewN HB.out _))⟩
      rcases h2 : welcomeB z with _ | b
      · obtain rfl : o1 = (a, 0) := by rw [← HO1.out, h1]; rfl
        obtain rfl : o2 = ([], 1) := by rw [← HO2.out, h2]; rfl
        clear h1 h2 HO1 HO2
        go_quiet (fail)
        go_wp2_with fail
        go_ret
        exact ⟨rfl, by first | exact nx HB0.out (below_drewN HB.out _) | (rw [← hg]; exact nx HB0.out (below_drewN HB.out _))⟩
      obtain rfl : o1 = (a, 0) := by rw [← HO1.out, h1]; rfl
      obtain rfl : o2 = (b, 0) := by rw [← HO2.out, h2]; rfl
      have hab := apart_iff fw_welcome h1 h2
      clear h1 h2 HO1 HO2
      have HA : Hid (Sl q2 D02 a.length d02 (bv a)) := HS0
      have HBb : Hid (Sl q2 D12 b.length d12 (bv b)) := HS1
      have HBD : Hid (Below wb.heap.size wb (q2.drewN 1)) := Lib.hid (below_drewN HB.out 1)
      have HSM := Lib.hid (samewelcome_any E1 E2 n1 n2 c1 c2 v z _ (HV.out.below HBD.out) (HZ.out.below HBD.out))
      unfold wv at HSM
      clear HS0 HS1
      by_cases htu : v = z
      · have hb : a = b := hab.2 htu
        subst hb
        rw [decide_eq_true htu] at HSM
        clear htu hab
        have q1 := (HA.out.drewN 1).str (P := Try.prog) Try.underlying23 Try.underlying5 Try.underlying9
        have q2 := (HBb.out.drewN 1).str (P := Try.prog) Try.underlying23 Try.underlying5 Try.underlying9
        have m0 := (HBD.out.block (g + 2) (by have := HG1.out; omega)).trans K2.out
        have a0_0 := cell_of m0 0
        have a0_1 := cell_of m0 1
        have a0_2 := cell_of m0 2
        have a0_3 := cell_of m0 3
        have a0_4 := cell_of m0 4
        have a0_5 := cell_of m0 5
        have a0_6 := cell_of m0 6
        have a0_7 := cell_of m0 7
        have a0_8 := cell_of m0 8
        have a0_9 := cell_of m0 9
        have m1 := (HBD.out.block (g + 3) (by have := HG1.out; omega)).trans K3.out
        have a1_0 := cell_of m1 0
        have a1_1 := cell_of m1 1
        have a1_2 := cell_of m1 2
        have a1_3 := cell_of m1 3
        have a1_4 := cell_of m1 4
        have a1_5 := cell_of m1 5
        have a1_6 := cell_of m1 6
        have a1_7 := cell_of m1 7
        have a1_8 := cell_of m1 8
        have a1_9 := cell_of m1 9
        go_region_held3 (fun w' => (convert 23 9 (.slice D02 a.length d02)).run Try.prog w' = .ok (.string ⟨a.toArray⟩) w' ∧ (convert 23 9 (.slice D12 a.length d12)).run Try.prog w' = .ok (.string ⟨a.toArray⟩) w' ∧ w'.cell? ⟨g + 2, 0, none⟩ = some (.int .i64 v.at_) ∧ w'.cell? ⟨g + 2, 1, none⟩ = some (.int .i64 v.by_) ∧ w'.cell? ⟨g + 2, 2, none⟩ = some (.int .i64 v.id) ∧ w'.cell? ⟨g + 2, 3, none⟩ = some (.int .i64 v.epoch) ∧ w'.cell? ⟨g + 2, 4, none⟩ = some (.slice E1 n1 c1) ∧ w'.cell? ⟨g + 2, 5, none⟩ = some (.int .i64 v.conf) ∧ w'.cell? ⟨g + 2, 6, none⟩ = some (.int .i64 v.ext) ∧ w'.cell? ⟨g + 2, 7, none⟩ = some (.int .i64 v.sig) ∧ w'.cell? ⟨g + 2, 8, none⟩ = some (.int .i64 v.tag) ∧ w'.cell? ⟨g + 2, 9, none⟩ = some (.int .i64 v.sealed_) ∧ w'.cell? ⟨g + 3, 0, none⟩ = some (.int .i64 z.at_) ∧ w'.cell? ⟨g + 3, 1, none⟩ = some (.int .i64 z.by_) ∧ w'.cell? ⟨g + 3, 2, none⟩ = some (.int .i64 z.id) ∧ w'.cell? ⟨g + 3, 3, none⟩ = some (.int .i64 z.epoch) ∧ w'.cell? ⟨g + 3, 4, none⟩ = some (.slice E2 n2 c2) ∧ w'.cell? ⟨g + 3, 5, none⟩ = some (.int .i64 z.conf) ∧ w'.cell? ⟨g + 3, 6, none⟩ = some (.int .i64 z.ext) ∧ w'.cell? ⟨g + 3, 7, none⟩ = some (.int .i64 z.sig) ∧ w'.cell? ⟨g + 3, 8, none⟩ = some (.int .i64 z.tag) ∧ w'.cell? ⟨g + 3, 9, none⟩ = some (.int .i64 z.sealed_)) (first | exact ⟨q1, q2, a0_0, a0_1, a0_2, a0_3, a0_4, a0_5, a0_6, a0_7, a0_8, a0_9, a1_0, a1_1, a1_2, a1_3, a1_4, a1_5, a1_6, a1_7, a1_8, a1_9⟩ | exact ⟨r1, r2, b0_0, b0_1, b0_2, b0_3, b0_4, b0_5, b0_6, b0_7, b0_8, b0_9, b1_0, b1_1, b1_2, b1_3, b1_4, b1_5, b1_6, b1_7, b1_8, b1_9⟩) (first
          | (go_at_call 44; refine HSM.out.mono ?_; rintro e w4 ⟨rfl, hB4⟩; have r1 := ((HA.out.drewN 1).below hB4).str (P := Try.prog) Try.underlying23 Try.underlying5 Try.underlying9; have r2 := ((HBb.out.drewN 1).below hB4).str (P := Try.prog) Try.underlying23 Try.underlying5 Try.underlying9; have m0_ := (hB4.block (g + 2) (by have := HBD.out.size; have := HG1.out; omega)).trans m0; have b0_0 := cell_of m0_ 0; have b0_1 := cell_of m0_ 1; have b0_2 := cell_of m0_ 2; have b0_3 := cell_of m0_ 3; have b0_4 := cell_of m0_ 4; have b0_5 := cell_of m0_ 5; have b0_6 := cell_of m0_ 6; have b0_7 := cell_of m0_ 7; have b0_8 := cell_of m0_ 8; have b0_9 := cell_of m0_ 9; have m1_ := (hB4.block (g + 3) (by have := HBD.out.size; have := HG1.out; omega)).trans m1; have b1_0 := cell_of m1_ 0; have b1_1 := cell_of m1_ 1; have b1_2 := cell_of m1_ 2; have b1_3 := cell_of m1_ 3; have b1_4 := cell_of m1_ 4; have b1_5 := cell_of m1_ 5; have b1_6 := cell_of m1_ 6; have b1_7 := cell_of m1_ 7; have b1_8 := cell_of m1_ 8; have b1_9 := cell_of m1_ 9))
        all_goals
          go_wp2_with fail
          go_ret
          exact ⟨rfl, nx HB0.out (nx HBD.out hB4)⟩
      · have hb : ¬ a = b := fun e => htu (hab.1 e)
        rw [decide_eq_false htu] at HSM
        have t5 : (a == b) = false := by rw [beq_eq_false_iff_ne]; exact hb
        clear htu hab
        have q1 := (HA.out.drewN 1).str (P := Try.prog) Try.underlying23 Try.underlying5 Try.underlying9
        have q2 := (HBb.out.drewN 1).str (P := Try.prog) Try.underlying23 Try.underlying5 Try.underlying9
        have m0 := (HBD.out.block (g + 2) (by have := HG1.out; omega)).trans K2.out
        have a0_0 := cell_of m0 0
        have a0_1 := cell_of m0 1
        have a0_2 := cell_of m0 2
        have a0_3 := cell_of m0 3
        have a0_4 := cell_of m0 4
        have a0_5 := cell_of m0 5
        have a0_6 := cell_of m0 6
        have a0_7 := cell_of m0 7
        have a0_8 := cell_of m0 8
        have a0_9 := cell_of m0 9
        have m1 := (HBD.out.block (g + 3) (by have := HG1.out; omega)).trans K3.out
        have a1_0 := cell_of m1 0
        have a1_1 := cell_of m1 1
        have a1_2 := cell_of m1 2
        have a1_3 := cell_of m1 3
        have a1_4 := cell_of m1 4
        have a1_5 := cell_of m1 5
        have a1_6 := cell_of m1 6
        have a1_7 := cell_of m1 7
        have a1_8 := cell_of m1 8
        have a1_9 := cell_of m1 9
        go_region_held3 (fun w' => (convert 23 9 (.slice D02 a.length d02)).run Try.prog w' = .ok (.string ⟨a.toArray⟩) w' ∧ (convert 23 9 (.slice D12 b.length d12)).run Try.prog w' = .ok (.string ⟨b.toArray⟩) w' ∧ w'.cell? ⟨g + 2, 0, none⟩ = some (.int .i64 v.at_) ∧ w'.cell? ⟨g + 2, 1, none⟩ = some (.int .i64 v.by_) ∧ w'.cell? ⟨g + 2, 2, none⟩ = some (.int .i64 v.id) ∧ w'.cell? ⟨g + 2, 3, none⟩ = some (.int .i64 v.epoch) ∧ w'.cell? ⟨g + 2, 4, none⟩ = some (.slice E1 n1 c1) ∧ w'.cell? ⟨g + 2, 5, none⟩ = some (.int .i64 v.conf) ∧ w'.cell? ⟨g + 2, 6, none⟩ = some (.int .i64 v.ext) ∧ w'.cell? ⟨g + 2, 7, none⟩ = some (.int .i64 v.sig) ∧ w'.cell? ⟨g + 2, 8, none⟩ = some (.int .i64 v.tag) ∧ w'.cell? ⟨g + 2, 9, none⟩ = some (.int .i64 v.sealed_) ∧ w'.cell? ⟨g + 3, 0, none⟩ = some (.int .i64 z.at_) ∧ w'.cell? ⟨g + 3, 1, none⟩ = some (.int .i64 z.by_) ∧ w'.cell? ⟨g + 3, 2, none⟩ = some (.int .i64 z.id) ∧ w'.cell? ⟨g + 3, 3, none⟩ = some (.int .i64 z.epoch) ∧ w'.cell? ⟨g + 3, 4, none⟩ = some (.slice E2 n2 c2) ∧ w'.cell? ⟨g + 3, 5, none⟩ = some (.int .i64 z.conf) ∧ w'.cell? ⟨g + 3, 6, none⟩ = some (.int .i64 z.ext) ∧ w'.cell? ⟨g + 3, 7, none⟩ = some (.int .i64 z.sig) ∧ w'.cell? ⟨g + 3, 8, none⟩ = some (.int .i64 z.tag) ∧ w'.cell? ⟨g + 3, 9, none⟩ = some (.int .i64 z.sealed_)) (first | exact ⟨q1, q2, a0_0, a0_1, a0_2, a0_3, a0_4, a0_5, a0_6, a0_7, a0_8, a0_9, a1_0, a1_1, a1_2, a1_3, a1_4, a1_5, a1_6, a1_7, a1_8, a1_9⟩ | exact ⟨r1, r2, b0_0, b0_1, b0_2, b0_3, b0_4, b0_5, b0_6, b0_7, b0_8, b0_9, b1_0, b1_1, b1_2, b1_3, b1_4, b1_5, b1_6, b1_7, b1_8, b1_9⟩) (first
          | (go_at_call 44; refine HSM.out.mono ?_; rintro e w4 ⟨rfl, hB4⟩; have r1 := ((HA.out.drewN 1).below hB4).str (P := Try.prog) Try.underlying23 Try.underlying5 Try.underlying9; have r2 := ((HBb.out.drewN 1).below hB4).str (P := Try.prog) Try.underlying23 Try.underlying5 Try.underlying9; have m0_ := (hB4.block (g + 2) (by have := HBD.out.size; have := HG1.out; omega)).trans m0; have b0_0 := cell_of m0_ 0; have b0_1 := cell_of m0_ 1; have b0_2 := cell_of m0_ 2; have b0_3 := cell_of m0_ 3; have b0_4 := cell_of m0_ 4; have b0_5 := cell_of m0_ 5; have b0_6 := cell_of m0_ 6; have b0_7 := cell_of m0_ 7; have b0_8 := cell_of m0_ 8; have b0_9 := cell_of m0_ 9; have m1_ := (hB4.block (g + 3) (by have := HBD.out.size; have := HG1.out; omega)).trans m1; have b1_0 := cell_of m1_ 0; have b1_1 := cell_of m1_ 1; have b1_2 := cell_of m1_ 2; have b1_3 := cell_of m1_ 3; have b1_4 := cell_of m1_ 4; have b1_5 := cell_of m1_ 5; have b1_6 := cell_of m1_ 6; have b1_7 := cell_of m1_ 7; have b1_8 := cell_of m1_ 8; have b1_9 := cell_of m1_ 9))
        all_goals
          go_wp2_with fail
          go_ret
          exact ⟨rfl, nx HB0.out (nx HBD.out hB4)⟩
end Go.Proofs.Ytjebmmmjjiomfaa
