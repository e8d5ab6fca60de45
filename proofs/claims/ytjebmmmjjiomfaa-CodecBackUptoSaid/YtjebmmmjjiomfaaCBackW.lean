/- The walk of the law CodecBack. -/
import Derived.Test.YtjebmmmjjiomfaaCMore
namespace Go.Proofs.Ytjebmmmjjiomfaa
open Go.RowKit

set_option maxRecDepth 100000 in
set_option maxHeartbeats 32000000 in
theorem codecBack_walk (A : Option Addr) (n c : Nat) (t : List TN) (x : CM) (P : CP) (B : Option Addr) (m d : Nat) (y : WM) (w : World) (hT : Ts w A n c t) (hM : CMem w x P) (hW : Ts w B m d y.tree)
    (hzt : Hid (szT t ≤ 1048576)) (hzc : Hid (szC x ≤ 1048576)) (hzw : Hid (szT y.tree ≤ 1048576)) :
    Calls Try.prog 13 #[.slice A n c, cv x P, wv y B m d] w fun e w' => e = .returned (.bool true) ∧ Below w.heap.size w w' := by
  obtain ⟨g, hg⟩ : ∃ g, w.heap.size = g := ⟨_, rfl⟩
  obtain ⟨wb, hwb⟩ : ∃ wb, (w.alloc (.cells (cc x P) 72)).alloc (.cells (wc y B m d) 58) = wb := ⟨_, rfl⟩
  have hBb : Below w.heap.size w wb := by rw [← hwb]; exact nxa (nxa (Below.refl _ _) _) _
  have k0 : wb.heap[g]? = some (.cells (cc x P) 72) := by rw [← hwb, Below.heap_alloc _ _ _ (by simp; omega), ← hg]; exact heap_alloc_new _ _
  have k1 : wb.heap[g + 1]? = some (.cells (wc y B m d) 58) := by
    have := heap_alloc_new (w.alloc (.cells (cc x P) 72)) (.cells (wc y B m d) 58)
    rw [← hwb]
    rwa [show (w.alloc (.cells (cc x P) 72)).heap.size = g + 1 by simp [hg]] at this
  have HG1 : Hid (g + 1 < wb.heap.size) := Lib.hid (Array.getElem?_eq_some_iff.1 k1).1
  have HL := Lib.hid (clive_ok wb)
  have HT := Lib.hid (hT.below hBb); have HM := Lib.hid (hM.below hBb); have HY := Lib.hid (hW.below hBb)
  have HWB := Lib.hid hwb; have HB0 := Lib.hid hBb; have K0 := Lib.hid k0; have K1 := Lib.hid k1
  have hntop := hT.top
  unfold maxLen at hntop
  clear hwb hBb k0 k1 hT hM hW
  unfold cv wv
  go_enter Try.func13, Try.ntmps13
  go_wp2_with fail
  rw [HWB.out]
  refine HL.out.mono ?_
  rintro e w1 ⟨rfl, hB1⟩
  have HB := Lib.hid hB1
  have HG := Lib.hid (bigT_ok A n c t w1 (HT.out.below hB1) hzt)
  clear hB1
  by_cases hb : 5000 < szT t
  case pos =>
    rw [decide_eq_true hb] at HG
    clear hb
    go_wp2_with (go_at_call 33; refine HG.out.mono ?_; rintro e w2 ⟨rfl, hB2⟩)
    go_ret
    exact ⟨rfl, nx HB0.out (nx HB.out hB2)⟩
  rw [decide_eq_false hb] at HG
  have HBT : Hid (szT t ≤ 5000) := Lib.hid (by show _ ≤ _; omega)
  clear hb
  go_wp2_with fail
  refine HG.out.mono ?_
  rintro e w2 ⟨rfl, hB2⟩
  replace HB := Lib.hid (nx HB.out hB2)
  clear HG hB2
  have m0 := (HB.out.block g (by have := HG1.out; omega)).trans K0.out
  have m1 := (HB.out.block (g + 1) HG1.out).trans K1.out
  have a0 := cell_of m0 0; have a1 := cell_of m0 1; have a2 := cell_of m0 2; have a3 := cell_of m0 3; have a4 := cell_of m0 4; have a5 := cell_of m0 5; have a6 := cell_of m0 6; have a7 := cell_of m0 7; have a8 := cell_of m0 8; have a9 := cell_of m0 9; have a10 := cell_of m0 10; have a11 := cell_of m0 11; have a12 := cell_of m0 12
  have e4 := cell_of m1 4
  have HG := Lib.hid (bigC_ok x P w2 (HM.out.below HB.out) hzc)
  have M1 := Lib.hid m1
  unfold cv at HG
  clear m0 m1
  by_cases hb : 5000 < szC x
  case pos =>
    rw [decide_eq_true hb] at HG
    clear hb
    go_wp2_with (go_at_call 45; refine HG.out.mono ?_; rintro e w3 ⟨rfl, hB3⟩)
    go_ret
    exact ⟨rfl, nx HB0.out (nx HB.out hB3)⟩
  rw [decide_eq_false hb] at HG
  have HBC : Hid (szC x ≤ 5000) := Lib.hid (by show _ ≤ _; omega)
  clear hb
  go_wp2_with fail
  refine HG.out.mono ?_
  rintro e w3 ⟨rfl, hB3⟩
  replace HB := Lib.hid (nx HB.out hB3)
  clear a0 a1 a2 a3 a4 a5 a6 a7 a8 a9 a10 a11 a12
  clear e4 HG M1 hB3
  have m1 := (HB.out.block (g + 1) HG1.out).trans K1.out
  have e4 := cell_of m1 4
  have HG := Lib.hid (bigT_ok B m d y.tree w3 (HY.out.below HB.out) hzw)
  clear m1
  by_cases hb : 5000 < szT y.tree
  case pos =>
    rw [decide_eq_true hb] at HG
    clear hb
    go_wp2_with fail
    refine HG.out.mono ?_
    rintro e w4 ⟨rfl, hB4⟩
    clear e4
    go_wp2_with fail
    go_ret
    exact ⟨rfl, nx HB0.out (nx HB.out hB4)⟩
  rw [decide_eq_false hb] at HG
  have HBW : Hid (szT y.tree ≤ 5000) := Lib.hid (by show _ ≤ _; omega)
  clear hb
  go_wp2_with fail
  refine HG.out.mono ?_
  rintro e w4 ⟨rfl, hB4⟩
  replace HB := Lib.hid (nx HB.out hB4)
  clear e4 HG hB4
  have HW := Lib.hid (tree_ok A n c t w4 (HT.out.below HB.out) (few_szT hzt.out))
  go_wp2_with fail
  refine HW.out.mono ?_
  rintro e v01 ⟨⟨b0, D0, d0, f1, rfl, hS⟩ | ⟨f1, rfl⟩, hB1⟩
  · replace HB := Lib.hid (nx HB.out hB1)
    have hup := treeB_up f1
    have hne := full_ne fw_tree (le_L rNode) f1
    have HLB : Hid (b0.length ≤ 1073741000) := Lib.hid (by have := HBT.out; show _ ≤ _; omega)
    have HTK := Lib.hid (taketree_ok D0 b0.length d0 b0 v01 hS (Lib.hid (by have := HLB.out; show _ ≤ _; omega)))
    rw [full_back fw_tree f1] at HTK
    have HF1 := Lib.hid f1; have HNE := Lib.hid hne; have HS := Lib.hid hS
    have z0 : ((b0.length : Int) == 0) = false := by rw [beq_eq_false_iff_ne]; omega
    clear HW f1 hup hne hS hB1
    go_wp2_with fail
    refine HTK.out.mono ?_
    rintro e v02 ⟨⟨u, E0, h0, f2, rfl, hT2⟩ | ⟨f2, rfl⟩, hB2⟩
    rotate_left
    · cases f2
    injection f2 with f2; subst f2
    replace HB := Lib.hid (nx HB.out hB2); replace HS := Lib.hid (HS.out.below hB2)
    have HSM := Lib.hid (rsame_any A E0 n t.length c h0 t t v02 (HT.out.below HB.out) hT2)
    rw [decide_eq_true rfl] at HSM
    clear HTK hT2 hB2
    go_wp2_with fail
    refine HSM.out.mono ?_
    rintro e v03 ⟨rfl, hB3⟩
    replace HB := Lib.hid (nx HB.out hB3); replace HS := Lib.hid (HS.out.below hB3)
    have HMO := Lib.hid (more_no 52 D0 d0 b0 (fun l => (full rTree l).isSome) v03 HS.out HNE.out HLB cf52 (Lib.hid (fun B m d l' w h1 h2 => cb1_ok B m d l' w h1 h2)) (by show (full rTree _).isSome = false; rw [full_more fw_tree HF1.out]; rfl) (by show (full rTree _).isSome = false; rw [full_less fw_tree bw_tree (le_L rNode) HF1.out]; rfl))
    clear HSM hB3
    go_wp2_with fail
    refine HMO.out.mono ?_
    rintro e v04 ⟨rfl, hB4⟩
    replace HB := Lib.hid (nx HB.out hB4)
    clear HMO hB4 HS z0
    have m0 := (HB.out.block g (by have := HG1.out; omega)).trans K0.out
    have a0 := cell_of m0 0; have a1 := cell_of m0 1; have a2 := cell_of m0 2; have a3 := cell_of m0 3; have a4 := cell_of m0 4; have a5 := cell_of m0 5; have a6 := cell_of m0 6; have a7 := cell_of m0 7; have a8 := cell_of m0 8; have a9 := cell_of m0 9; have a10 := cell_of m0 10; have a11 := cell_of m0 11; have a12 := cell_of m0 12
    have HW := Lib.hid (commit_ok x P v04 (HM.out.below HB.out) hzc)
    unfold cv at HW
    clear m0
    go_wp2_with fail
    clear a0 a1 a2 a3 a4 a5 a6 a7 a8 a9 a10 a11 a12
    refine HW.out.mono ?_
    rintro e v11 ⟨⟨b1, D1, d1, f1, rfl, hS⟩ | ⟨f1, rfl⟩, hB1⟩
    · replace HB := Lib.hid (nx HB.out hB1)
      have hup := commitB_up f1
      have hne := full_ne fw_commit le_commit f1
      have HLB : Hid (b1.length ≤ 1073741000) := Lib.hid (by have := HBC.out; show _ ≤ _; omega)
      have HTK := Lib.hid (takecommit_ok D1 b1.length d1 b1 v11 hS (Lib.hid (by have := HLB.out; show _ ≤ _; omega)))
      rw [full_back fw_commit f1] at HTK
      have HF1 := Lib.hid f1; have HNE := Lib.hid hne; have HS := Lib.hid hS
      have z0 : ((b1.length : Int) == 0) = false := by rw [beq_eq_false_iff_ne]; omega
      clear HW f1 hup hne hS hB1
      go_wp2_with fail
      refine HTK.out.mono ?_
      rintro e v12 ⟨⟨u, Q, f2, rfl, hM2⟩ | ⟨f2, rfl⟩, hB2⟩
      rotate_left
      · cases f2
      injection f2 with f2; subst f2
      replace HB := Lib.hid (nx HB.out hB2); replace HS := Lib.hid (HS.out.below hB2)
      obtain ⟨gz, hgz⟩ : ∃ gz, v12.heap.size = gz := ⟨_, rfl⟩
      obtain ⟨wz, hwz⟩ : ∃ wz, v12.alloc (.cells (cc x Q) 72) = wz := ⟨_, rfl⟩
      have hBz : Below v12.heap.size v12 wz := by rw [← hwz]; exact nxa (Below.refl _ _) _
      have kz : wz.heap[gz]? = some (.cells (cc x Q) 72) := by rw [← hwz, ← hgz]; exact heap_alloc_new _ _
      replace HB := Lib.hid (nx HB.out hBz); replace HS := Lib.hid (HS.out.below hBz)
      have m0 := (HB.out.block g (by have := HG1.out; omega)).trans K0.out
      have a0 := cell_of m0 0; have a1 := cell_of m0 1; have a2 := cell_of m0 2; have a3 := cell_of m0 3; have a4 := cell_of m0 4; have a5 := cell_of m0 5; have a6 := cell_of m0 6; have a7 := cell_of m0 7; have a8 := cell_of m0 8; have a9 := cell_of m0 9; have a10 := cell_of m0 10; have a11 := cell_of m0 11; have a12 := cell_of m0 12
      have o0 := cell_of kz 0; have o1 := cell_of kz 1; have o2 := cell_of kz 2; have o3 := cell_of kz 3; have o4 := cell_of kz 4; have o5 := cell_of kz 5; have o6 := cell_of kz 6; have o7 := cell_of kz 7; have o8 := cell_of kz 8; have o9 := cell_of kz 9; have o10 := cell_of kz 10; have o11 := cell_of kz 11; have o12 := cell_of kz 12
      have HSM := Lib.hid (samecommit_any x x P Q wz (HM.out.below HB.out) (hM2.below hBz))
      rw [decide_eq_true rfl] at HSM
      unfold cv at HSM ⊢
      rw [← hwz] at a0 o0 a1 o1 a2 o2 a3 o3 a4 o4 a5 o5 a6 o6 a7 o7 a8 o8 a9 o9 a10 o10 a11 o11 a12 o12
      have HWZ := Lib.hid hwz
      clear HTK hM2 hB2 hBz kz m0 hwz hgz
      go_wp2_with fail
      rw [HWZ.out]
      clear a0 o0 a1 o1 a2 o2 a3 o3 a4 o4 a5 o5 a6 o6 a7 o7 a8 o8 a9 o9 a10 o10 a11 o11 a12 o12
      refine HSM.out.mono ?_
      rintro e v13 ⟨rfl, hB3⟩
      replace HB := Lib.hid (nx HB.out hB3); replace HS := Lib.hid (HS.out.below hB3)
      have HMO := Lib.hid (more_no 53 D1 d1 b1 (fun l => (full rCommit l).isSome) v13 HS.out HNE.out HLB cf53 (Lib.hid (fun B m d l' w h1 h2 => cb2_ok B m d l' w h1 h2)) (by show (full rCommit _).isSome = false; rw [full_more fw_commit HF1.out]; rfl) (by show (full rCommit _).isSome = false; rw [full_less fw_commit bw_commit le_commit HF1.out]; rfl))
      clear HSM hB3
      go_wp2_with fail
      refine HMO.out.mono ?_
      rintro e v14 ⟨rfl, hB4⟩
      replace HB := Lib.hid (nx HB.out hB4)
      clear HMO hB4 HS z0
      have m1 := (HB.out.block (g + 1) HG1.out).trans K1.out
      have a0 := cell_of m1 0; have a1 := cell_of m1 1; have a2 := cell_of m1 2; have a3 := cell_of m1 3; have a4 := cell_of m1 4; have a5 := cell_of m1 5; have a6 := cell_of m1 6; have a7 := cell_of m1 7; have a8 := cell_of m1 8; have a9 := cell_of m1 9
      have HW := Lib.hid (welcome_ok B m d y v14 (HY.out.below HB.out) (few_szT hzw.out))
      unfold wv at HW
      clear m1
      go_wp2_with fail
      clear a0 a1 a2 a3 a4 a5 a6 a7 a8 a9
      refine HW.out.mono ?_
      rintro e v21 ⟨⟨b2, D2, d2, f1, rfl, hS⟩ | ⟨f1, rfl⟩, hB1⟩
      · replace HB := Lib.hid (nx HB.out hB1)
        have hup := welcomeB_up f1
        have hne := full_ne fw_welcome le_welcome f1
        have HLB : Hid (b2.length ≤ 1073741000) := Lib.hid (by have := HBW.out; show _ ≤ _; omega)
        have HTK := Lib.hid (takewelcome_ok D2 b2.length d2 b2 v21 hS (Lib.hid (by have := HLB.out; show _ ≤ _; omega)))
        rw [full_back fw_welcome f1] at HTK
        have HF1 := Lib.hid f1; have HNE := Lib.hid hne; have HS := Lib.hid hS
        have z0 : ((b2.length : Int) == 0) = false := by rw [beq_eq_false_iff_ne]; omega
        clear HW f1 hup hne hS hB1
        go_wp2_with fail
        refine HTK.out.mono ?_
        rintro e v22 ⟨⟨u, E2, h2, f2, rfl, hT2⟩ | ⟨f2, rfl⟩, hB2⟩
        rotate_left
        · cases f2
        injection f2 with f2; subst f2
        replace HB := Lib.hid (nx HB.out hB2); replace HS := Lib.hid (HS.out.below hB2)
        obtain ⟨gz, hgz⟩ : ∃ gz, v22.heap.size = gz := ⟨_, rfl⟩
        obtain ⟨wz, hwz⟩ : ∃ wz, v22.alloc (.cells (wc y E2 y.tree.length h2) 58) = wz := ⟨_, rfl⟩
        have hBz : Below v22.heap.size v22 wz := by rw [← hwz]; exact nxa (Below.refl _ _) _
        have kz : wz.heap[gz]? = some (.cells (wc y E2 y.tree.length h2) 58) := by rw [← hwz, ← hgz]; exact heap_alloc_new _ _
        replace HB := Lib.hid (nx HB.out hBz); replace HS := Lib.hid (HS.out.below hBz)
        have m1 := (HB.out.block (g + 1) HG1.out).trans K1.out
        have a0 := cell_of m1 0; have a1 := cell_of m1 1; have a2 := cell_of m1 2; have a3 := cell_of m1 3; have a4 := cell_of m1 4; have a5 := cell_of m1 5; have a6 := cell_of m1 6; have a7 := cell_of m1 7; have a8 := cell_of m1 8; have a9 := cell_of m1 9
        have o0 := cell_of kz 0; have o1 := cell_of kz 1; have o2 := cell_of kz 2; have o3 := cell_of kz 3; have o4 := cell_of kz 4; have o5 := cell_of kz 5; have o6 := cell_of kz 6; have o7 := cell_of kz 7; have o8 := cell_of kz 8; have o9 := cell_of kz 9
        have HSM := Lib.hid (samewelcome_any B E2 m y.tree.length d h2 y y wz (HY.out.below HB.out) (hT2.below hBz))
        rw [decide_eq_true rfl] at HSM
        unfold wv at HSM ⊢
        rw [← hwz] at a0 o0 a1 o1 a2 o2 a3 o3 a4 o4 a5 o5 a6 o6 a7 o7 a8 o8 a9 o9
        have HWZ := Lib.hid hwz
        clear HTK hT2 hB2 hBz kz m1 hwz hgz
        go_wp2_with fail
        rw [HWZ.out]
        clear a0 o0 a1 o1 a2 o2 a3 o3 a4 o4 a5 o5 a6 o6 a7 o7 a8 o8 a9 o9
        refine HSM.out.mono ?_
        rintro e v23 ⟨rfl, hB3⟩
        replace HB := Lib.hid (nx HB.out hB3); replace HS := Lib.hid (HS.out.below hB3)
        have HMO := Lib.hid (more_no 54 D2 d2 b2 (fun l => (full rWelcome l).isSome) v23 HS.out HNE.out HLB cf54 (Lib.hid (fun B m d l' w h1 h2 => cb3_ok B m d l' w h1 h2)) (by show (full rWelcome _).isSome = false; rw [full_more fw_welcome HF1.out]; rfl) (by show (full rWelcome _).isSome = false; rw [full_less fw_welcome bw_welcome le_welcome HF1.out]; rfl))
        clear HSM hB3
        go_wp2_with fail
        refine HMO.out.mono ?_
        rintro e v24 ⟨rfl, hB4⟩
        replace HB := Lib.hid (nx HB.out hB4)
        clear HMO hB4 HS z0
        go_wp2_with fail
        go_ret
        exact ⟨rfl, nx HB0.out HB.out⟩
      · replace HB := Lib.hid (nx HB.out hB1)
        clear HW f1 hB1
        go_wp2_with fail
        go_ret
        exact ⟨rfl, nx HB0.out HB.out⟩
    · replace HB := Lib.hid (nx HB.out hB1)
      clear HW f1 hB1
      have m1 := (HB.out.block (g + 1) HG1.out).trans K1.out
      have a0 := cell_of m1 0; have a1 := cell_of m1 1; have a2 := cell_of m1 2; have a3 := cell_of m1 3; have a4 := cell_of m1 4; have a5 := cell_of m1 5; have a6 := cell_of m1 6; have a7 := cell_of m1 7; have a8 := cell_of m1 8; have a9 := cell_of m1 9
      have HW := Lib.hid (welcome_ok B m d y v11 (HY.out.below HB.out) (few_szT hzw.out))
      unfold wv at HW
      clear m1
      go_wp2_with fail
      clear a0 a1 a2 a3 a4 a5 a6 a7 a8 a9
      refine HW.out.mono ?_
      rintro e v21 ⟨⟨b2, D2, d2, f1, rfl, hS⟩ | ⟨f1, rfl⟩, hB1⟩
      · replace HB := Lib.hid (nx HB.out hB1)
        have hup := welcomeB_up f1
        have hne := full_ne fw_welcome le_welcome f1
        have HLB : Hid (b2.length ≤ 1073741000) := Lib.hid (by have := HBW.out; show _ ≤ _; omega)
        have HTK := Lib.hid (takewelcome_ok D2 b2.length d2 b2 v21 hS (Lib.hid (by have := HLB.out; show _ ≤ _; omega)))
        rw [full_back fw_welcome f1] at HTK
        have HF1 := Lib.hid f1; have HNE := Lib.hid hne; have HS := Lib.hid hS
        have z0 : ((b2.length : Int) == 0) = false := by rw [beq_eq_false_iff_ne]; omega
        clear HW f1 hup hne hS hB1
        go_wp2_with fail
        refine HTK.out.mono ?_
        rintro e v22 ⟨⟨u, E2, h2, f2, rfl, hT2⟩ | ⟨f2, rfl⟩, hB2⟩
        rotate_left
        · cases f2
        injection f2 with f2; subst f2
        replace HB := Lib.hid (nx HB.out hB2); replace HS := Lib.hid (HS.out.below hB2)
        obtain ⟨gz, hgz⟩ : ∃ gz, v22.heap.size = gz := ⟨_, rfl⟩
        obtain ⟨wz, hwz⟩ : ∃ wz, v22.alloc (.cells (wc y E2 y.tree.length h2) 58) = wz := ⟨_, rfl⟩
        have hBz : Below v22.heap.size v22 wz := by rw [← hwz]; exact nxa (Below.refl _ _) _
        have kz : wz.heap[gz]? = some (.cells (wc y E2 y.tree.length h2) 58) := by rw [← hwz, ← hgz]; exact heap_alloc_new _ _
        replace HB := Lib.hid (nx HB.out hBz); replace HS := Lib.hid (HS.out.below hBz)
        have m1 := (HB.out.block (g + 1) HG1.out).trans K1.out
        have a0 := cell_of m1 0; have a1 := cell_of m1 1; have a2 := cell_of m1 2; have a3 := cell_of m1 3; have a4 := cell_of m1 4; have a5 := cell_of m1 5; have a6 := cell_of m1 6; have a7 := cell_of m1 7; have a8 := cell_of m1 8; have a9 := cell_of m1 9
        have o0 := cell_of kz 0; have o1 := cell_of kz 1; have o2 := cell_of kz 2; have o3 := cell_of kz 3; have o4 := cell_of kz 4; have o5 := cell_of kz 5; have o6 := cell_of kz 6; have o7 := cell_of kz 7; have o8 := cell_of kz 8; have o9 := cell_of kz 9
        have HSM := Lib.hid (samewelcome_any B E2 m y.tree.length d h2 y y wz (HY.out.below HB.out) (hT2.below hBz))
        rw [decide_eq_true rfl] at HSM
        unfold wv at HSM ⊢
        rw [← hwz] at a0 o0 a1 o1 a2 o2 a3 o3 a4 o4 a5 o5 a6 o6 a7 o7 a8 o8 a9 o9
        have HWZ := Lib.hid hwz
        clear HTK hT2 hB2 hBz kz m1 hwz hgz
        go_wp2_with fail
        rw [HWZ.out]
        clear a0 o0 a1 o1 a2 o2 a3 o3 a4 o4 a5 o5 a6 o6 a7 o7 a8 o8 a9 o9
        refine HSM.out.mono ?_
        rintro e v23 ⟨rfl, hB3⟩
        replace HB := Lib.hid (nx HB.out hB3); replace HS := Lib.hid (HS.out.below hB3)
        have HMO := Lib.hid (more_no 54 D2 d2 b2 (fun l => (full rWelcome l).isSome) v23 HS.out HNE.out HLB cf54 (Lib.hid (fun B m d l' w h1 h2 => cb3_ok B m d l' w h1 h2)) (by show (full rWelcome _).isSome = false; rw [full_more fw_welcome HF1.out]; rfl) (by show (full rWelcome _).isSome = false; rw [full_less fw_welcome bw_welcome le_welcome HF1.out]; rfl))
        clear HSM hB3
        go_wp2_with fail
        refine HMO.out.mono ?_
        rintro e v24 ⟨rfl, hB4⟩
        replace HB := Lib.hid (nx HB.out hB4)
        clear HMO hB4 HS z0
        go_wp2_with fail
        go_ret
        exact ⟨rfl, nx HB0.out HB.out⟩
      · replace HB := Lib.hid (nx HB.out hB1)
        clear HW f1 hB1
        go_wp2_with fail
        go_ret
        exact ⟨rfl, nx HB0.out HB.out⟩
  · replace HB := Lib.hid (nx HB.out hB1)
    clear HW f1 hB1
    have m0 := (HB.out.block g (by have := HG1.out; omega)).trans K0.out
    have a0 := cell_of m0 0; have a1 := cell_of m0 1; have a2 := cell_of m0 2; have a3 := cell_of m0 3; have a4 := cell_of m0 4; have a5 := cell_of m0 5; have a6 := cell_of m0 6; have a7 := cell_of m0 7; have a8 := cell_of m0 8; have a9 := cell_of m0 9; have a10 := cell_of m0 10; have a11 := cell_of m0 11; have a12 := cell_of m0 12
    have HW := Lib.hid (commit_ok x P v01 (HM.out.below HB.out) hzc)
    unfold cv at HW
    clear m0
    go_wp2_with fail
    clear a0 a1 a2 a3 a4 a5 a6 a7 a8 a9 a10 a11 a12
    refine HW.out.mono ?_
    rintro e v11 ⟨⟨b1, D1, d1, f1, rfl, hS⟩ | ⟨f1, rfl⟩, hB1⟩
    · replace HB := Lib.hid (nx HB.out hB1)
      have hup := commitB_up f1
      have hne := full_ne fw_commit le_commit f1
      have HLB : Hid (b1.length ≤ 1073741000) := Lib.hid (by have := HBC.out; show _ ≤ _; omega)
      have HTK := Lib.hid (takecommit_ok D1 b1.length d1 b1 v11 hS (Lib.hid (by have := HLB.out; show _ ≤ _; omega)))
      rw [full_back fw_commit f1] at HTK
      have HF1 := Lib.hid f1; have HNE := Lib.hid hne; have HS := Lib.hid hS
      have z0 : ((b1.length : Int) == 0) = false := by rw [beq_eq_false_iff_ne]; omega
      clear HW f1 hup hne hS hB1
      go_wp2_with fail
      refine HTK.out.mono ?_
      rintro e v12 ⟨⟨u, Q, f2, rfl, hM2⟩ | ⟨f2, rfl⟩, hB2⟩
      rotate_left
      · cases f2
      injection f2 with f2; subst f2
      replace HB := Lib.hid (nx HB.out hB2); replace HS := Lib.hid (HS.out.below hB2)
      obtain ⟨gz, hgz⟩ : ∃ gz, v12.heap.size = gz := ⟨_, rfl⟩
      obtain ⟨wz, hwz⟩ : ∃ wz, v12.alloc (.cells (cc x Q) 72) = wz := ⟨_, rfl⟩
      have hBz : Below v12.heap.size v12 wz := by rw [← hwz]; exact nxa (Below.refl _ _) _
      have kz : wz.heap[gz]? = some (.cells (cc x Q) 72) := by rw [← hwz, ← hgz]; exact heap_alloc_new _ _
      replace HB := Lib.hid (nx HB.out hBz); replace HS := Lib.hid (HS.out.below hBz)
      have m0 := (HB.out.block g (by have := HG1.out; omega)).trans K0.out
      have a0 := cell_of m0 0; have a1 := cell_of m0 1; have a2 := cell_of m0 2; have a3 := cell_of m0 3; have a4 := cell_of m0 4; have a5 := cell_of m0 5; have a6 := cell_of m0 6; have a7 := cell_of m0 7; have a8 := cell_of m0 8; have a9 := cell_of m0 9; have a10 := cell_of m0 10; have a11 := cell_of m0 11; have a12 := cell_of m0 12
      have o0 := cell_of kz 0; have o1 := cell_of kz 1; have o2 := cell_of kz 2; have o3 := cell_of kz 3; have o4 := cell_of kz 4; have o5 := cell_of kz 5; have o6 := cell_of kz 6; have o7 := cell_of kz 7; have o8 := cell_of kz 8; have o9 := cell_of kz 9; have o10 := cell_of kz 10; have o11 := cell_of kz 11; have o12 := cell_of kz 12
      have HSM := Lib.hid (samecommit_any x x P Q wz (HM.out.below HB.out) (hM2.below hBz))
      rw [decide_eq_true rfl] at HSM
      unfold cv at HSM ⊢
      rw [← hwz] at a0 o0 a1 o1 a2 o2 a3 o3 a4 o4 a5 o5 a6 o6 a7 o7 a8 o8 a9 o9 a10 o10 a11 o11 a12 o12
      have HWZ := Lib.hid hwz
      clear HTK hM2 hB2 hBz kz m0 hwz hgz
      go_wp2_with fail
      rw [HWZ.out]
      clear a0 o0 a1 o1 a2 o2 a3 o3 a4 o4 a5 o5 a6 o6 a7 o7 a8 o8 a9 o9 a10 o10 a11 o11 a12 o12
      refine HSM.out.mono ?_
      rintro e v13 ⟨rfl, hB3⟩
      replace HB := Lib.hid (nx HB.out hB3); replace HS := Lib.hid (HS.out.below hB3)
      have HMO := Lib.hid (more_no 53 D1 d1 b1 (fun l => (full rCommit l).isSome) v13 HS.out HNE.out HLB cf53 (Lib.hid (fun B m d l' w h1 h2 => cb2_ok B m d l' w h1 h2)) (by show (full rCommit _).isSome = false; rw [full_more fw_commit HF1.out]; rfl) (by show (full rCommit _).isSome = false; rw [full_less fw_commit bw_commit le_commit HF1.out]; rfl))
      clear HSM hB3
      go_wp2_with fail
      refine HMO.out.mono ?_
      rintro e v14 ⟨rfl, hB4⟩
      replace HB := Lib.hid (nx HB.out hB4)
      clear HMO hB4 HS z0
      have m1 := (HB.out.block (g + 1) HG1.out).trans K1.out
      have a0 := cell_of m1 0; have a1 := cell_of m1 1; have a2 := cell_of m1 2; have a3 := cell_of m1 3; have a4 := cell_of m1 4; have a5 := cell_of m1 5; have a6 := cell_of m1 6; have a7 := cell_of m1 7; have a8 := cell_of m1 8; have a9 := cell_of m1 9
      have HW := Lib.hid (welcome_ok B m d y v14 (HY.out.below HB.out) (few_szT hzw.out))
      unfold wv at HW
      clear m1
      go_wp2_with fail
      clear a0 a1 a2 a3 a4 a5 a6 a7 a8 a9
      refine HW.out.mono ?_
      rintro e v21 ⟨⟨b2, D2, d2, f1, rfl, hS⟩ | ⟨f1, rfl⟩, hB1⟩
      · replace HB := Lib.hid (nx HB.out hB1)
        have hup := welcomeB_up f1
        have hne := full_ne fw_welcome le_welcome f1
        have HLB : Hid (b2.length ≤ 1073741000) := Lib.hid (by have := HBW.out; show _ ≤ _; omega)
        have HTK := Lib.hid (takewelcome_ok D2 b2.length d2 b2 v21 hS (Lib.hid (by have := HLB.out; show _ ≤ _; omega)))
        rw [full_back fw_welcome f1] at HTK
        have HF1 := Lib.hid f1; have HNE := Lib.hid hne; have HS := Lib.hid hS
        have z0 : ((b2.length : Int) == 0) = false := by rw [beq_eq_false_iff_ne]; omega
        clear HW f1 hup hne hS hB1
        go_wp2_with fail
        refine HTK.out.mono ?_
        rintro e v22 ⟨⟨u, E2, h2, f2, rfl, hT2⟩ | ⟨f2, rfl⟩, hB2⟩
        rotate_left
        · cases f2
        injection f2 with f2; subst f2
        replace HB := Lib.hid (nx HB.out hB2); replace HS := Lib.hid (HS.out.below hB2)
        obtain ⟨gz, hgz⟩ : ∃ gz, v22.heap.size = gz := ⟨_, rfl⟩
        obtain ⟨wz, hwz⟩ : ∃ wz, v22.alloc (.cells (wc y E2 y.tree.length h2) 58) = wz := ⟨_, rfl⟩
        have hBz : Below v22.heap.size v22 wz := by rw [← hwz]; exact nxa (Below.refl _ _) _
        have kz : wz.heap[gz]? = some (.cells (wc y E2 y.tree.length h2) 58) := by rw [← hwz, ← hgz]; exact heap_alloc_new _ _
        replace HB := Lib.hid (nx HB.out hBz); replace HS := Lib.hid (HS.out.below hBz)
        have m1 := (HB.out.block (g + 1) HG1.out).trans K1.out
        have a0 := cell_of m1 0; have a1 := cell_of m1 1; have a2 := cell_of m1 2; have a3 := cell_of m1 3; have a4 := cell_of m1 4; have a5 := cell_of m1 5; have a6 := cell_of m1 6; have a7 := cell_of m1 7; have a8 := cell_of m1 8; have a9 := cell_of m1 9
        have o0 := cell_of kz 0; have o1 := cell_of kz 1; have o2 := cell_of kz 2; have o3 := cell_of kz 3; have o4 := cell_of kz 4; have o5 := cell_of kz 5; have o6 := cell_of kz 6; have o7 := cell_of kz 7; have o8 := cell_of kz 8; have o9 := cell_of kz 9
        have HSM := Lib.hid (samewelcome_any B E2 m y.tree.length d h2 y y wz (HY.out.below HB.out) (hT2.below hBz))
        rw [decide_eq_true rfl] at HSM
        unfold wv at HSM ⊢
        rw [← hwz] at a0 o0 a1 o1 a2 o2 a3 o3 a4 o4 a5 o5 a6 o6 a7 o7 a8 o8 a9 o9
        have HWZ := Lib.hid hwz
        clear HTK hT2 hB2 hBz kz m1 hwz hgz
        go_wp2_with fail
        rw [HWZ.out]
        clear a0 o0 a1 o1 a2 o2 a3 o3 a4 o4 a5 o5 a6 o6 a7 o7 a8 o8 a9 o9
        refine HSM.out.mono ?_
        rintro e v23 ⟨rfl, hB3⟩
        replace HB := Lib.hid (nx HB.out hB3); replace HS := Lib.hid (HS.out.below hB3)
        have HMO := Lib.hid (more_no 54 D2 d2 b2 (fun l => (full rWelcome l).isSome) v23 HS.out HNE.out HLB cf54 (Lib.hid (fun B m d l' w h1 h2 => cb3_ok B m d l' w h1 h2)) (by show (full rWelcome _).isSome = false; rw [full_more fw_welcome HF1.out]; rfl) (by show (full rWelcome _).isSome = false; rw [full_less fw_welcome bw_welcome le_welcome HF1.out]; rfl))
        clear HSM hB3
        go_wp2_with fail
        refine HMO.out.mono ?_
        rintro e v24 ⟨rfl, hB4⟩
        replace HB := Lib.hid (nx HB.out hB4)
        clear HMO hB4 HS z0
        go_wp2_with fail
        go_ret
        exact ⟨rfl, nx HB0.out HB.out⟩
      · replace HB := Lib.hid (nx HB.out hB1)
        clear HW f1 hB1
        go_wp2_with fail
        go_ret
        exact ⟨rfl, nx HB0.out HB.out⟩
    · replace HB := Lib.hid (nx HB.out hB1)
      clear HW f1 hB1
      have m1 := (HB.out.block (g + 1) HG1.out).trans K1.out
      have a0 := cell_of m1 0; have a1 := cell_of m1 1; have a2 := cell_of m1 2; have a3 := cell_of m1 3; have a4 := cell_of m1 4; have a5 := cell_of m1 5; have a6 := cell_of m1 6; have a7 := cell_of m1 7; have a8 := cell_of m1 8; have a9 := cell_of m1 9
      have HW := Lib.hid (welcome_ok B m d y v11 (HY.out.below HB.out) (few_szT hzw.out))
      unfold wv at HW
      clear m1
      go_wp2_with fail
      clear a0 a1 a2 a3 a4 a5 a6 a7 a8 a9
      refine HW.out.mono ?_
      rintro e v21 ⟨⟨b2, D2, d2, f1, rfl, hS⟩ | ⟨f1, rfl⟩, hB1⟩
      · replace HB := Lib.hid (nx HB.out hB1)
        have hup := welcomeB_up f1
        have hne := full_ne fw_welcome le_welcome f1
        have HLB : Hid (b2.length ≤ 1073741000) := Lib.hid (by have := HBW.out; show _ ≤ _; omega)
        have HTK := Lib.hid (takewelcome_ok D2 b2.length d2 b2 v21 hS (Lib.hid (by have := HLB.out; show _ ≤ _; omega)))
        rw [full_back fw_welcome f1] at HTK
        have HF1 := Lib.hid f1; have HNE := Lib.hid hne; have HS := Lib.hid hS
        have z0 : ((b2.length : Int) == 0) = false := by rw [beq_eq_false_iff_ne]; omega
        clear HW f1 hup hne hS hB1
        go_wp2_with fail
        refine HTK.out.mono ?_
        rintro e v22 ⟨⟨u, E2, h2, f2, rfl, hT2⟩ | ⟨f2, rfl⟩, hB2⟩
        rotate_left
        · cases f2
        injection f2 with f2; subst f2
        replace HB := Lib.hid (nx HB.out hB2); replace HS := Lib.hid (HS.out.below hB2)
        obtain ⟨gz, hgz⟩ : ∃ gz, v22.heap.size = gz := ⟨_, rfl⟩
        obtain ⟨wz, hwz⟩ : ∃ wz, v22.alloc (.cells (wc y E2 y.tree.length h2) 58) = wz := ⟨_, rfl⟩
        have hBz : Below v22.heap.size v22 wz := by rw [← hwz]; exact nxa (Below.refl _ _) _
        have kz : wz.heap[gz]? = some (.cells (wc y E2 y.tree.length h2) 58) := by rw [← hwz, ← hgz]; exact heap_alloc_new _ _
        replace HB := Lib.hid (nx HB.out hBz); replace HS := Lib.hid (HS.out.below hBz)
        have m1 := (HB.out.block (g + 1) HG1.out).trans K1.out
        have a0 := cell_of m1 0; have a1 := cell_of m1 1; have a2 := cell_of m1 2; have a3 := cell_of m1 3; have a4 := cell_of m1 4; have a5 := cell_of m1 5; have a6 := cell_of m1 6; have a7 := cell_of m1 7; have a8 := cell_of m1 8; have a9 := cell_of m1 9
        have o0 := cell_of kz 0; have o1 := cell_of kz 1; have o2 := cell_of kz 2; have o3 := cell_of kz 3; have o4 := cell_of kz 4; have o5 := cell_of kz 5; have o6 := cell_of kz 6; have o7 := cell_of kz 7; have o8 := cell_of kz 8; have o9 := cell_of kz 9
        have HSM := Lib.hid (samewelcome_any B E2 m y.tree.length d h2 y y wz (HY.out.below HB.out) (hT2.below hBz))
        rw [decide_eq_true rfl] at HSM
        unfold wv at HSM ⊢
        rw [← hwz] at a0 o0 a1 o1 a2 o2 a3 o3 a4 o4 a5 o5 a6 o6 a7 o7 a8 o8 a9 o9
        have HWZ := Lib.hid hwz
        clear HTK hT2 hB2 hBz kz m1 hwz hgz
        go_wp2_with fail
        rw [HWZ.out]
        clear a0 o0 a1 o1 a2 o2 a3 o3 a4 o4 a5 o5 a6 o6 a7 o7 a8 o8 a9 o9
        refine HSM.out.mono ?_
        rintro e v23 ⟨rfl, hB3⟩
        replace HB := Lib.hid (nx HB.out hB3); replace HS := Lib.hid (HS.out.below hB3)
        have HMO := Lib.hid (more_no 54 D2 d2 b2 (fun l => (full rWelcome l).isSome) v23 HS.out HNE.out HLB cf54 (Lib.hid (fun B m d l' w h1 h2 => cb3_ok B m d l' w h1 h2)) (by show (full rWelcome _).isSome = false; rw [full_more fw_welcome HF1.out]; rfl) (by show (full rWelcome _).isSome = false; rw [full_less fw_welcome bw_welcome le_welcome HF1.out]; rfl))
        clear HSM hB3
        go_wp2_with fail
        refine HMO.out.mono ?_
        rintro e v24 ⟨rfl, hB4⟩
        replace HB := Lib.hid (nx HB.out hB4)
        clear HMO hB4 HS z0
        go_wp2_with fail
        go_ret
        exact ⟨rfl, nx HB0.out HB.out⟩
      · replace HB := Lib.hid (nx HB.out hB1)
        clear HW f1 hB1
        go_wp2_with fail
        go_ret
        exact ⟨rfl, nx HB0.out HB.out⟩
end Go.Proofs.Ytjebmmmjjiomfaa
