/- The walk of the law ShapeBack. -/
import Derived.Test.YtejoiamdhjhjhaaBackP
namespace Go.Proofs.Ytejoiamdhjhjhaa
open Go.RowKit

theorem alike_yes (A B : Option Addr) (n c d : Nat) (l l' : List St) (w : World) (h : Ss w A n c l) (k : Ss w B n d l') (hn : n ≤ 1000) (hw : Hid (∀ s ∈ l, StWf s)) (hw' : Hid (∀ s ∈ l', StWf s)) (hc : canL l' = canL l) :
    Calls Try.prog 11 #[.slice A n c, .slice B n d] w fun e w' => e = .returned (.bool true) ∧ Below w.heap.size w w' := by
  have H1 := Lib.hid (fun W hW => can_ok A n c l W hW hn hw)
  have H2 := Lib.hid (fun W hW => can_ok B n d l' W hW hn hw')
  have HL := Lib.hid h.len
  have HC := Lib.hid hc
  clear hc
  go_enter Try.func11, Try.ntmps11
  go_wp2_with fail
  refine (H1.out _ h).mono ?_; rintro e w1 ⟨A1, c1, rfl, hO1, hB1⟩
  go_wp2_with fail
  refine (H2.out _ (k.below hB1)).mono ?_; rintro e w2 ⟨A2, c2, rfl, hO2, hB2⟩
  rw [HC.out] at hO2
  have s1 := (hO1.ss (by rw [canL, List.length_map]; exact HL.out)).below hB2
  have s2 := hO2.ss (by rw [canL, List.length_map]; exact HL.out)
  go_wp2_with fail
  refine (equal_yes _ _ _ _ _ _ _ s1 s2).mono ?_; rintro e w3 ⟨rfl, hB3⟩
  go_wp2_with fail
  go_ret
  exact ⟨rfl, nx (nx hB1 hB2) hB3⟩
theorem sl_one (w : World) (A : Option Addr) (n c : Nat) (g : Nat) (hg : w.heap.size = g) : Sl (w.alloc (.cells #[.slice A n c] 22)) (some ⟨g, 0, none⟩) 1 1 [.slice A n c] := by
  subst hg
  exact ⟨rfl, by omega, by unfold maxLen; omega, lies_cells w #[.slice A n c] 22⟩
theorem few1 (w : World) (A : Option Addr) (n c : Nat) (g : Nat) (hg : w.heap.size = g) :
    Calls Try.prog 9 #[.slice (some ⟨g, 0, none⟩) 1 1] (w.alloc (.cells #[.slice A n c] 22)) fun e w' => BoolIs e (n ≤ 300) ∧ w.alloc (.cells #[.slice A n c] 22) = w' :=
  (few_any _ 1 1 _ _ (sl_one w A n c g hg) (by
    intro v hv
    simp at hv
    subst hv
    exact ⟨_, _, _, rfl⟩)).mono fun e w' ⟨⟨b, h1, h2⟩, h3⟩ => ⟨⟨b, h1, h2.trans (by simp [slen])⟩, h3⟩
theorem guard33 (w : World) (op : BinOp) (x y : Operand) (f : Nat → Nat) : (eqGuard op 33 x y (kagg f) (kagg f)).run Try.prog w = .ok () w :=
  run_eqGuard_agg w op 33 x y _ _ (by kernel_rfl)
set_option maxRecDepth 100000 in
set_option maxHeartbeats 4000000 in
theorem backWalk (A : Option Addr) (n c : Nat) (l : List St) (B : Option Addr) (m d : Nat) (zs : List Int) (w : World) (h : Ss w A n c l) (hl : Hid (∀ s ∈ l, StWf s)) (k0 : IsRow .i64 w B m d zs) (_ : m * 8 ≤ 140737488351232) :
    Calls Try.prog 7 #[.slice A n c, .slice B m d] w fun e w' => e = .returned (.bool true) ∧ Below w.heap.size w w' := by
  have HL := Lib.hid h.len
  obtain ⟨k, hpl, _⟩ := k0.ints
  obtain ⟨p, hp⟩ : ∃ p, zs.take m = p := ⟨_, rfl⟩
  rw [hp] at k hpl
  have HP := Lib.hid hpl
  clear hp hpl k0
  go_enter Try.func7, Try.ntmps7
  go_wp2_with fail
  refine (lead w).mono ?_; rintro e w1 ⟨rfl, hB1⟩
  go_wp2_with fail
  refine (few1 w1 A n c _ rfl).mono ?_; rintro e w' ⟨⟨b, rfl, hb⟩, rfl⟩
  cases b
  case false =>
    go_wp2_with fail
    go_ret
    exact ⟨rfl, nxa hB1 _⟩
  have hn := hb.1 rfl
  clear hb
  by_cases hm : 300 < m
  · have t : decide ((300 : Int) < (m : Int)) = true := decide_eq_true (by omega)
    go_wp2_with fail
    go_ret
    exact ⟨rfl, nxa hB1 _⟩
  have t : decide ((300 : Int) < (m : Int)) = false := decide_eq_false (by omega)
  have h1 := (h.below hB1).alloc (.cells #[.slice A n c] 22)
  have k1 := (k.below hB1).alloc (.cells #[.slice A n c] 22)
  have hB1' := nxa hB1 (.cells #[.slice A n c] 22)
  clear h k hB1
  have HCW := Lib.hid (can_wf (by rw [HL.out]; omega) hl.out)
  have HCC := Lib.hid (can_can l)
  have HCK := Lib.hid (can_kcnt l)
  have HCL : Hid ((canL l).length = n) := Lib.hid (by rw [canL, List.length_map]; exact HL.out)
  go_wp2_with fail
  refine (can_ok A n c l _ h1 (by omega) hl).mono ?_; rintro e w2 ⟨A2, c2, rfl, hO2, hB2⟩
  have h2 := h1.below hB2
  have k2 := k1.below hB2
  have hS2 := hO2.ss HCL.out
  have hB2' := nx hB1' hB2
  clear h1 k1 hO2 hB1' hB2
  go_wp2_with fail
  refine (can_ok A2 n c2 (canL l) _ hS2 (by omega) HCW).mono ?_; rintro e w3 ⟨A3, c3, rfl, hO3, hB3⟩
  rw [HCC.out] at hO3
  have h3 := h2.below hB3
  have k3 := k2.below hB3
  have hS3 := hO3.ss HCL.out
  have hS2' := hS2.below hB3
  have hB3' := nx hB2' hB3
  clear h2 k2 hO3 hB2' hB3 hS2
  go_wp2_with fail
  refine (same_yes A3 A2 n c3 c2 (canL l) _ hS3 hS2').mono ?_; rintro e w4 ⟨rfl, hB4⟩
  have h4 := h3.below hB4
  have k4 := k3.below hB4
  have hS4 := hS2'.below hB4
  have hB4' := nx hB3' hB4
  clear h3 k3 hB3' hB4 hS2' hS3
  go_wp2_with fail
  refine (alike_yes A A2 n c c2 l (canL l) _ h4 hS4 (by omega) hl HCW HCC.out).mono ?_; rintro e w5 ⟨rfl, hB5⟩
  have h5 := h4.below hB5
  have k5 := k4.below hB5
  have hS5 := hS4.below hB5
  have hB5' := nx hB4' hB5
  clear h4 k4 hB4' hB5 hS4
  go_wp2_with fail
  refine (kinds_ok A2 n c2 (canL l) _ hS5 (by omega)).mono ?_; rintro e w6 ⟨rfl, hB6⟩
  rw [HCK.out]
  have h6 := h5.below hB6
  have k6 := k5.below hB6
  have hB6' := nx hB5' hB6
  clear h5 k5 hB5' hB6 hS5
  go_wp2_with fail
  refine (kinds_ok A n c l _ h6 (by omega)).mono ?_; rintro e w7 ⟨rfl, hB7⟩
  have h7 := h6.below hB7
  have k7 := k6.below hB7
  have hB7' := nx hB6' hB7
  clear h6 k6 hB6' hB7
  have xg := guard33
  have xn := arr_neq
  have xe := arr_eql
  go_wp2_with fail
  refine (swap_ok A n c l B m d p _ h7 k7 (by omega) (by omega)).mono ?_
  rintro e w8 (⟨⟨hp, hr⟩, A8, c8, rfl, hO8, hB8⟩ | ⟨_, rfl, hB8⟩)
  rotate_left
  · have hB8' := nx hB7' hB8
    go_wp2_with fail
    go_ret
    exact ⟨rfl, hB8'⟩
  have h8 := h7.below hB8
  have k8 := k7.below hB8
  have hB8' := nx hB7' hB8
  have hSlen : (l.map (swF p)).length = n := by rw [List.length_map]; exact HL.out
  have hS8 := hO8.ss hSlen
  have HIP := Lib.hid (invL_isP hp)
  have HIR := Lib.hid (sw_inr hp hr)
  have HBK := Lib.hid (sw_back_all hp hr)
  have HCN := Lib.hid (sw_can hp hr)
  have HAC := Lib.hid (sw_act hp hr)
  have HKC := Lib.hid (sw_kcnt p l)
  have HWF := Lib.hid (sw_wf hp (by rw [HP.out]; omega) hr hl.out)
  have HPP := Lib.hid hp
  have hal := act_len l
  rw [HL.out] at hal
  obtain ⟨l', hl'⟩ : ∃ l', l.map (swF p) = l' := ⟨_, rfl⟩
  rw [hl'] at hS8 HIR HBK HCN HAC HKC HWF
  clear h7 k7 hB7' hB8 hO8 hSlen hp hr hl'
  go_wp2_with fail
  refine (inverse_ok B m d p _ k8 (by omega)).mono ?_
  rintro e w9 (⟨_, A9, c9, rfl, hO9, hB9⟩ | ⟨hno, rfl, hB9⟩)
  rotate_left
  · exact absurd HPP.out hno
  have h9 := h8.below hB9
  have hS9 := hS8.below hB9
  have k9 := hO9.sl
  have hB9' := nx hB8' hB9
  clear h8 k8 hB8' hB9 hS8 hO9
  go_wp2_with fail
  refine (swap_ok A8 n c8 l' A9 m c9 (invL p) _ hS9 k9 (by omega) (by omega)).mono ?_
  rintro e w10 (⟨_, A10, c10, rfl, hO10, hB10⟩ | ⟨hno, rfl, hB10⟩)
  rotate_left
  · exact absurd ⟨HIP.out, HIR.out⟩ hno
  rw [HBK.out] at hO10
  have h10 := h9.below hB10
  have hS10 := hS9.below hB10
  have hY10 := hO10.ss HL.out
  have hB10' := nx hB9' hB10
  clear h9 k9 hB9' hB10 hS9 hO10
  go_wp2_with fail
  refine (same_yes A10 A n c10 c l _ hY10 h10).mono ?_; rintro e w11 ⟨rfl, hB11⟩
  have h11 := h10.below hB11
  have hS11 := hS10.below hB11
  have hB11' := nx hB10' hB11
  clear h10 hB10' hB11 hS10 hY10
  go_wp2_with fail
  refine (alike_yes A A8 n c c8 l l' _ h11 hS11 (by omega) hl HWF HCN.out).mono ?_; rintro e w12 ⟨rfl, hB12⟩
  have h12 := h11.below hB12
  have hS12 := hS11.below hB12
  have hB12' := nx hB11' hB12
  clear h11 hB11' hB12 hS11
  go_wp2_with fail
  refine (kinds_ok A8 n c8 l' _ hS12 (by omega)).mono ?_; rintro e w13 ⟨rfl, hB13⟩
  rw [HKC.out]
  have h13 := h12.below hB13
  have hS13 := hS12.below hB13
  have hB13' := nx hB12' hB13
  clear h12 hB12' hB13 hS12
  go_wp2_with fail
  refine (kinds_ok A n c l _ h13 (by omega)).mono ?_; rintro e w14 ⟨rfl, hB14⟩
  have h14 := h13.below hB14
  have hS14 := hS13.below hB14
  have hB14' := nx hB13' hB14
  clear h13 hB13' hB14 hS13
  go_wp2_with fail
  refine (act_ok A8 n c8 l' _ hS14 (by omega) HWF).mono ?_; rintro e w15 ⟨A15, c15, rfl, hO15, hB15⟩
  rw [HAC.out]
  have h15 := h14.below hB15
  have hB15' := nx hB14' hB15
  clear h14 hB14' hB15 hS14 hO15
  go_wp2_with fail
  refine (act_ok A n c l _ h15 (by omega) hl).mono ?_; rintro e w16 ⟨A16, c16, rfl, hO16, hB16⟩
  have hB16' := nx hB15' hB16
  clear h15 hB15' hB16 hO16
  go_wp2_with fail
  go_ret
  exact ⟨rfl, hB16'⟩
end Go.Proofs.Ytejoiamdhjhjhaa
