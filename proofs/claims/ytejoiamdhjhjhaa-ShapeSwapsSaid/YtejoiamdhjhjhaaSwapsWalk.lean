/- The walk of the law ShapeSwaps. -/
import Derived.Test.YtejoiamdhjhjhaaRefSwap
namespace Go.Proofs.Ytejoiamdhjhjhaa
open Go.RowKit

set_option maxRecDepth 100000 in
set_option maxHeartbeats 4000000 in
theorem swapsWalk (A : Option Addr) (n c : Nat) (l : List St) (B : Option Addr) (m d : Nat) (zs : List Int) (w : World) (h : Ss w A n c l) (_ : Hid (∀ s ∈ l, StWf s)) (k0 : IsRow .i64 w B m d zs) (_ : m * 8 ≤ 140737488351232) :
    Calls Try.prog 5 #[.slice A n c, .slice B m d] w fun e w' => e = .returned (.bool true) ∧ Below w.heap.size w w' := by
  have HL := Lib.hid h.len
  obtain ⟨k, hpl, _⟩ := k0.ints
  obtain ⟨p, hp⟩ : ∃ p, zs.take m = p := ⟨_, rfl⟩
  rw [hp] at k hpl
  have HP := Lib.hid hpl
  clear hp hpl k0
  go_enter Try.func5, Try.ntmps5
  go_wp2_with fail
  refine (lead w).mono ?_; rintro e w1 ⟨rfl, hB1⟩
  go_wp2_with fail
  refine (few1 w1 A n c _ rfl).mono ?_; rintro e w' ⟨⟨b, rfl, hb⟩, rfl⟩
  cases b
  case false =>
    go_wp2_with fail
    go_ret
    exact ⟨rfl, nxa hB1 _⟩
  have hn := hb.1 rfl
  clear hb
  by_cases hm : 300 < m
  · have t : decide ((300 : Int) < (m : Int)) = true := decide_eq_true (by omega)
    go_wp2_with fail
    go_ret
    exact ⟨rfl, nxa hB1 _⟩
  have t : decide ((300 : Int) < (m : Int)) = false := decide_eq_false (by omega)
  have h1 := (h.below hB1).alloc (.cells #[.slice A n c] 22)
  have k1 := (k.below hB1).alloc (.cells #[.slice A n c] 22)
  have hB1' := nxa hB1 (.cells #[.slice A n c] 22)
  have hSlen : Hid ((l.map (swF p)).length = n) := Lib.hid (by rw [List.length_map]; exact HL.out)
  clear h k hB1
  by_cases hP : IsP p ∧ ∀ s ∈ l, InR p s
  · have HSW := Lib.hid hP
    have HIP := Lib.hid hP.1
    clear hP
    go_wp2_with fail
    refine (swap_ok A n c l B m d p _ h1 k1 (by omega) (by omega)).mono ?_
    rintro e w2 (⟨hyes, A2, c2, rfl, hO2, hB2⟩ | ⟨hno, rfl, hB2⟩)
    rotate_left
    · exact absurd HSW.out hno
    have hS2 := hO2.ss hSlen.out
    clear hyes hO2
    have h2 := h1.below hB2; have k2 := k1.below hB2; have hB2' := nx hB1' hB2
    clear h1 k1 hB1' hB2
    go_wp2_with fail
    refine (rswap_ok A n c l B m d p _ h2 k2 (by omega) (by omega)).mono ?_
    rintro e w3 (⟨hyes, A3, c3, rfl, hO3, hB3⟩ | ⟨hno, rfl, hB3⟩)
    rotate_left
    · exact absurd HSW.out hno
    have hS3 := hO3.ss hSlen.out
    clear hyes hO3
    have h3 := h2.below hB3; have k3 := k2.below hB3; have hB3' := nx hB2' hB3
    have hS2' := hS2.below hB3
    clear h2 k2 hB2' hB3 hS2
    go_wp2_with fail
    refine (inverse_ok B m d p _ k3 (by omega)).mono ?_
    rintro e w4 (⟨hyes, A4, c4, rfl, hO4, hB4⟩ | ⟨hno, rfl, hB4⟩)
    rotate_left
    · exact absurd HIP.out hno
    have hS4 := hO4.sl
    clear hyes hO4
    have h4 := h3.below hB4; have k4 := k3.below hB4; have hB4' := nx hB3' hB4
    have hS2'' := hS2'.below hB4; have hS3' := hS3.below hB4
    clear h3 k3 hB3' hB4 hS2' hS3
    go_wp2_with fail
    refine (rinverse_ok B m d p _ k4 (by omega)).mono ?_
    rintro e w5 (⟨hyes, A5, c5, rfl, hO5, hB5⟩ | ⟨hno, rfl, hB5⟩)
    rotate_left
    · exact absurd HIP.out hno
    have hS5 := hO5.sl
    clear hyes hO5
    have h5 := h4.below hB5; have k5 := k4.below hB5; have hB5' := nx hB4' hB5
    have hS2f := hS2''.below hB5; have hS3f := hS3'.below hB5
    have hS4' := hS4.below hB5
    clear h4 k4 hB4' hB5 hS2'' hS3' hS4
    go_wp2_with fail
    refine (same_yes A2 A3 n c2 c3 _ _ hS2f hS3f).mono ?_; rintro e w6 ⟨rfl, hB6⟩
    have hB6' := nx hB5' hB6
    have hS4f := hS4'.below hB6; have hS5f := hS5.below hB6
    clear hB5' hB6 h5 k5 hS2f hS3f hS4' hS5
    go_wp2_with fail
    refine (ints_yes A4 A5 m c4 c5 _ _ hS4f hS5f).mono ?_; rintro e w7 ⟨rfl, hB7⟩
    have hB7' := nx hB6' hB7
    clear hB6' hB7 hS4f hS5f
    go_wp2_with fail
    go_ret
    exact ⟨rfl, hB7'⟩
  · have HSW := Lib.hid hP
    clear hP
    by_cases hI : IsP p
    · have HIP := Lib.hid hI
      clear hI
      go_wp2_with fail
      refine (swap_ok A n c l B m d p _ h1 k1 (by omega) (by omega)).mono ?_
      rintro e w2 (⟨hyes, A2, c2, rfl, hO2, hB2⟩ | ⟨hno, rfl, hB2⟩)
      · exact absurd hyes HSW.out
      clear hno
      have h2 := h1.below hB2; have k2 := k1.below hB2; have hB2' := nx hB1' hB2
      clear h1 k1 hB1' hB2
      go_wp2_with fail
      refine (rswap_ok A n c l B m d p _ h2 k2 (by omega) (by omega)).mono ?_
      rintro e w3 (⟨hyes, A3, c3, rfl, hO3, hB3⟩ | ⟨hno, rfl, hB3⟩)
      · exact absurd hyes HSW.out
      clear hno
      have h3 := h2.below hB3; have k3 := k2.below hB3; have hB3' := nx hB2' hB3
      clear h2 k2 hB2' hB3
      go_wp2_with fail
      refine (inverse_ok B m d p _ k3 (by omega)).mono ?_
      rintro e w4 (⟨hyes, A4, c4, rfl, hO4, hB4⟩ | ⟨hno, rfl, hB4⟩)
      rotate_left
      · exact absurd HIP.out hno
      have hS4 := hO4.sl
      clear hyes hO4
      have h4 := h3.below hB4; have k4 := k3.below hB4; have hB4' := nx hB3' hB4
      clear h3 k3 hB3' hB4
      go_wp2_with fail
      refine (rinverse_ok B m d p _ k4 (by omega)).mono ?_
      rintro e w5 (⟨hyes, A5, c5, rfl, hO5, hB5⟩ | ⟨hno, rfl, hB5⟩)
      rotate_left
      · exact absurd HIP.out hno
      have hS5 := hO5.sl
      clear hyes hO5
      have h5 := h4.below hB5; have k5 := k4.below hB5; have hB5' := nx hB4' hB5
      have hS4' := hS4.below hB5
      clear h4 k4 hB4' hB5 hS4
      go_wp2_with fail
      refine (same_yes none none 0 0 0 [] _ (Ss.none _) (Ss.none _)).mono ?_; rintro e w6 ⟨rfl, hB6⟩
      have hB6' := nx hB5' hB6
      have hS4f := hS4'.below hB6; have hS5f := hS5.below hB6
      clear hB5' hB6 h5 k5 hS4' hS5
      go_wp2_with fail
      refine (ints_yes A4 A5 m c4 c5 _ _ hS4f hS5f).mono ?_; rintro e w7 ⟨rfl, hB7⟩
      have hB7' := nx hB6' hB7
      clear hB6' hB7 hS4f hS5f
      go_wp2_with fail
      go_ret
      exact ⟨rfl, hB7'⟩
    · have HIP := Lib.hid hI
      clear hI
      go_wp2_with fail
      refine (swap_ok A n c l B m d p _ h1 k1 (by omega) (by omega)).mono ?_
      rintro e w2 (⟨hyes, A2, c2, rfl, hO2, hB2⟩ | ⟨hno, rfl, hB2⟩)
      · exact absurd hyes HSW.out
      clear hno
      have h2 := h1.below hB2; have k2 := k1.below hB2; have hB2' := nx hB1' hB2
      clear h1 k1 hB1' hB2
      go_wp2_with fail
      refine (rswap_ok A n c l B m d p _ h2 k2 (by omega) (by omega)).mono ?_
      rintro e w3 (⟨hyes, A3, c3, rfl, hO3, hB3⟩ | ⟨hno, rfl, hB3⟩)
      · exact absurd hyes HSW.out
      clear hno
      have h3 := h2.below hB3; have k3 := k2.below hB3; have hB3' := nx hB2' hB3
      clear h2 k2 hB2' hB3
      go_wp2_with fail
      refine (inverse_ok B m d p _ k3 (by omega)).mono ?_
      rintro e w4 (⟨hyes, A4, c4, rfl, hO4, hB4⟩ | ⟨hno, rfl, hB4⟩)
      · exact absurd hyes HIP.out
      clear hno
      have h4 := h3.below hB4; have k4 := k3.below hB4; have hB4' := nx hB3' hB4
      clear h3 k3 hB3' hB4
      go_wp2_with fail
      refine (rinverse_ok B m d p _ k4 (by omega)).mono ?_
      rintro e w5 (⟨hyes, A5, c5, rfl, hO5, hB5⟩ | ⟨hno, rfl, hB5⟩)
      · exact absurd hyes HIP.out
      clear hno
      have h5 := h4.below hB5; have k5 := k4.below hB5; have hB5' := nx hB4' hB5
      clear h4 k4 hB4' hB5
      go_wp2_with fail
      refine (same_yes none none 0 0 0 [] _ (Ss.none _) (Ss.none _)).mono ?_; rintro e w6 ⟨rfl, hB6⟩
      have hB6' := nx hB5' hB6
      clear hB5' hB6 h5 k5
      go_wp2_with fail
      refine (ints_yes none none 0 0 0 [] _ (Sl.none _) (Sl.none _)).mono ?_; rintro e w7 ⟨rfl, hB7⟩
      have hB7' := nx hB6' hB7
      clear hB6' hB7
      go_wp2_with fail
      go_ret
      exact ⟨rfl, hB7'⟩
end Go.Proofs.Ytejoiamdhjhjhaa
