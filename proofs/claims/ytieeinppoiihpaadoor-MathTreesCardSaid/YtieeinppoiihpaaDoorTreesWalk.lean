/- The walk of the law MathTrees. -/
import Derived.Test.YtieeinppoiihpaaDoorRef2
namespace Go.Proofs.YtieeinppoiihpaaDoor
open Go.RowKit

def Two (f g : FuncId) (x n u e : Int) : Prop :=
  (∀ W, Tab W → Calls Tryd.prog f #[.int .i64 x, .int .i64 n] W fun r w' => r = .returned (.tuple #[.int .i64 u, .int .i64 e]) ∧ Below W.heap.size W w') ∧
  (∀ W, Calls Tryd.prog g #[.int .i64 x, .int .i64 n] W fun r w' => r = .returned (.tuple #[.int .i64 u, .int .i64 e]) ∧ W = w')
def TwoL (f g : FuncId) (x n : Int) (N : Nat) (l : List Int) (e : Int) : Prop :=
  (∀ W, Tab W → Calls Tryd.prog f #[.int .i64 x, .int .i64 n] W fun r w' => ∃ A c, r = .returned (.tuple #[.slice A N c, .int .i64 e]) ∧ Sl w' A N c (iv l) ∧ Below W.heap.size W w') ∧
  (∀ W, Calls Tryd.prog g #[.int .i64 x, .int .i64 n] W fun r w' => ∃ A c, r = .returned (.tuple #[.slice A N c, .int .i64 e]) ∧ Sl w' A N c (iv l) ∧ Below W.heap.size W w')
set_option maxRecDepth 100000 in
set_option maxHeartbeats 1000000 in
theorem treesAll (x n u e s f : Int) (N M : Nat) (l m : List Int) (g h : Int) (w : World) (H1 : Hid (Two 14 21 x n u e)) (H2 : Hid (Two 22 23 x n s f)) (H3 : Hid (TwoL 16 24 x n N l g)) (H4 : Hid (TwoL 12 25 x n M m h)) (hT : Tab w) :
    Calls Tryd.prog 5 #[.int .i64 x, .int .i64 n] w fun e w' => e = .returned (.bool true) ∧ Below w.heap.size w w' := by
  have t1 : (u == u) = true := by simp
  have t2 : (e == e) = true := by simp
  have t3 : (s == s) = true := by simp
  have t4 : (f == f) = true := by simp
  have t5 : (g == g) = true := by simp
  have t6 : (h == h) = true := by simp
  go_enter Tryd.func5, Tryd.ntmps5
  go_wp2_with fail
  refine (lead w hT).mono ?_; rintro e w1 ⟨rfl, hB1⟩
  have T1 := hT.below' hB1
  go_wp2_with fail
  refine (H1.out.1 _ T1).mono ?_; rintro e w2 ⟨rfl, hB2⟩
  have T2 := T1.below' hB2
  go_wp2_with fail
  refine (H1.out.2 _).mono ?_; rintro e w' ⟨rfl, rfl⟩
  go_wp2_with fail
  refine (H2.out.1 _ T2).mono ?_; rintro e w3 ⟨rfl, hB3⟩
  have T3 := T2.below' hB3
  go_wp2_with fail
  refine (H2.out.2 _).mono ?_; rintro e w' ⟨rfl, rfl⟩
  go_wp2_with fail
  refine (H3.out.1 _ T3).mono ?_; rintro e w4 ⟨A4, c4, rfl, hS4, hB4⟩
  have T4 := T3.below' hB4
  go_wp2_with fail
  refine (H3.out.2 _).mono ?_; rintro e w5 ⟨A5, c5, rfl, hS5, hB5⟩
  have T5 := T4.below' hB5
  go_wp2_with fail
  refine (H4.out.1 _ T5).mono ?_; rintro e w6 ⟨A6, c6, rfl, hS6, hB6⟩
  go_wp2_with fail
  refine (H4.out.2 _).mono ?_; rintro e w7 ⟨A7, c7, rfl, hS7, hB7⟩
  go_wp2_with fail
  refine (same_yes _ _ _ _ _ _ _ (((hS4.below hB5).below hB6).below hB7) ((hS5.below hB6).below hB7)).mono ?_; rintro e w8 ⟨rfl, hB8⟩
  go_wp2_with fail
  refine (same_yes _ _ _ _ _ _ _ ((hS6.below hB7).below hB8) (hS7.below hB8)).mono ?_; rintro e w9 ⟨rfl, hB9⟩
  go_wp2_with fail
  go_ret
  exact ⟨rfl, nx (nx (nx (nx (nx (nx (nx (nx hB1 hB2) hB3) hB4) hB5) hB6) hB7) hB8) hB9⟩
theorem treesWalk (x n : Int) (w : World) (_ : -9223372036854775808 ≤ x ∧ x ≤ 9223372036854775807) (_ : -9223372036854775808 ≤ n ∧ n ≤ 9223372036854775807) (hT : Tab w) :
    Calls Tryd.prog 5 #[.int .i64 x, .int .i64 n] w fun e w' => e = .returned (.bool true) ∧ Below w.heap.size w w' := by
  by_cases h : InsI x n
  · obtain ⟨a, b, rfl, rfl, hab⟩ : ∃ a b : Nat, x = a ∧ n = b ∧ Ins a b := ⟨x.toNat, n.toNat, by have := h.1; omega, by have := h.2.1; omega, h.2.2⟩
    have hP : TwoL 16 24 (a : Int) (b : Int) (pathL a b).length (nv (pathL a b)) 0 :=
      ⟨fun W hW => (path_ok a b W hab hW).mono fun e w' ⟨A, c, p, q, r⟩ => ⟨A, c, p, q.sl, r⟩, fun W => (rpath_ok a b W hab).mono fun e w' ⟨A, c, p, q, r⟩ => ⟨A, c, p, q.sl, r⟩⟩
    have hC : TwoL 12 25 (a : Int) (b : Int) (copL a b).length (nv (copL a b)) 0 :=
      ⟨fun W hW => (cop_ok a b W hab hW).mono fun e w' ⟨A, c, p, q, r⟩ => ⟨A, c, p, q.sl, r⟩, fun W => (rcop_ok a b W hab).mono fun e w' ⟨A, c, p, q, r⟩ => ⟨A, c, p, q.sl, r⟩⟩
    by_cases hne : a + 1 = b
    · have hr : ∀ W, Calls Tryd.prog 21 #[.int .i64 (a : Int), .int .i64 (b : Int)] W fun e w' => e = .returned (.tuple #[.int .i64 0, .int .i64 1]) ∧ W = w' := fun W => by
        have := rpar_root b W hab.1
        rwa [show b - 1 = a by omega] at this
      exact treesAll a b 0 1 0 1 _ _ _ _ 0 0 w (Lib.hid ⟨fun W _ => parent_no a b W (.inr ⟨h, by omega⟩), hr⟩) (Lib.hid ⟨fun W _ => sibling_no a b W (.inr ⟨h, by omega⟩), fun W => rsib_no a b W (Lib.hid hr)⟩) (Lib.hid hP) (Lib.hid hC) hT
    · exact treesAll a b _ 0 _ 0 _ _ _ _ 0 0 w (Lib.hid ⟨fun W hW => parent_ok a b W hab hne hW, fun W => rpar_ok a b W hab hne⟩) (Lib.hid ⟨fun W hW => sibling_ok a b W hab hne hW, fun W => rsib_ok a b W hab hne⟩) (Lib.hid hP) (Lib.hid hC) hT
  · have hr := fun W => rpar_no x n W h
    exact treesAll x n 0 1 0 1 0 0 [] [] 1 1 w (Lib.hid ⟨fun W _ => parent_no x n W (.inl h), hr⟩) (Lib.hid ⟨fun W _ => sibling_no x n W (.inl h), fun W => rsib_no x n W (Lib.hid hr)⟩)
      (Lib.hid ⟨fun W _ => (path_no x n W h).mono fun e w' ⟨p, q⟩ => ⟨none, 0, p, Sl.none _, q ▸ Below.refl _ _⟩, fun W => (rpath_no x n W h).mono fun e w' ⟨p, q⟩ => ⟨none, 0, p, Sl.none _, q ▸ Below.refl _ _⟩⟩)
      (Lib.hid ⟨fun W _ => (cop_no x n W h).mono fun e w' ⟨p, q⟩ => ⟨none, 0, p, Sl.none _, q ▸ Below.refl _ _⟩, fun W => (rcop_no x n W h).mono fun e w' ⟨p, q⟩ => ⟨none, 0, p, Sl.none _, q ▸ Below.refl _ _⟩⟩) hT
end Go.Proofs.YtieeinppoiihpaaDoor
