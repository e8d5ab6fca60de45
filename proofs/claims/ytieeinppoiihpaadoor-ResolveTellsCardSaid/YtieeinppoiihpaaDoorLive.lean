/- The walks of the reference's SameInts at rows that are alike, and of the law's 'live'. -/
import Derived.Test.YtieeinppoiihpaaDoorNodes3
namespace Go.Proofs.YtieeinppoiihpaaDoor
open Go.RowKit

set_option maxHeartbeats 1000000 in
theorem same_yes (A B : Option Addr) (n c d : Nat) (l : List Int) (w : World) (h : Sl w A n c (iv l)) (k : Sl w B n d (iv l)) :
    Calls Tryd.prog 26 #[.slice A n c, .slice B n d] w fun e w' => e = .returned (.bool true) ∧ Below w.heap.size w w' := by
  have htop := h.top; have hcap := h.cap; unfold maxLen at htop
  go_enter Tryd.func26, Tryd.ntmps26
  have t : ((n : Int) != (n : Int)) = false := by simp
  go_wp2_with fail
  go_loopw [5, 13] (fun _ i wr => ∃ j q : Nat, j ≤ n ∧ i = .int .i64 (j : Int) ∧ wr = w.drewN q) (fun _ i _ => n - (intOf i).toNat)
  case atStart => exact ⟨0, 0, Nat.zero_le _, rfl, rfl⟩
  case round =>
    obtain ⟨j, q, hj, rfl, rfl⟩ := hrel
    by_cases hlt : j < n
    · obtain ⟨ad, hl, rfl, hc⟩ := h.int hlt
      obtain ⟨bd, _, rfl, hd⟩ := k.int hlt
      have i1 : (j : Int) < (n : Int) := by omega
      have t2 : ((l[j]'hl) != (l[j]'hl)) = false := by simp
      go_wp2_with fail
      go_quiet (fail)
      go_wp2_with fail
      go_roundw
      case rel => exact ⟨j + 1, _, by omega, by go_num, rfl⟩
      case measure => simp [intOf]; omega
    · obtain rfl : j = n := by omega
      go_wp2_with fail
      go_ret
      exact ⟨rfl, below_drewN (Below.refl _ _) _⟩
theorem lies_two (w : World) (u v : Value) (t : TypeId) (g : Nat) (hg : w.heap.size = g) : Lies (w.alloc (.cells #[u, v] t)) (some ⟨g, 0, none⟩) [u, v] := by
  subst hg
  refine .inr ⟨_, rfl, fun j x hx => ?_⟩
  match j, hx with
  | 0, hx => simp at hx; subst hx; simp [Addr.add]
  | 1, hx => simp at hx; subst hx; simp [Addr.add]
theorem sl_two (w : World) (a b : Int) (t : TypeId) : Sl (w.alloc (.cells #[.int .i64 a, .int .i64 b] t)) (some ⟨w.heap.size, 0, none⟩) 2 2 (iv [a, b]) :=
  ⟨rfl, by omega, by unfold maxLen; omega, lies_two w _ _ t _ rfl⟩
theorem pl04 : pathL 0 4 = [1, 3] := by decide +kernel
theorem cl04 : copL 0 4 = [2, 5] := by decide +kernel
theorem in04 : Ins 0 4 := by decide +kernel
theorem in44 : Ins 4 4 := by decide +kernel
theorem cm04 : comL 0 4 = 3 := by decide +kernel
theorem lo5 : loN 5 = 2 ∧ hiN 5 = 4 := by decide +kernel
theorem lpath (w : World) (hT : Tab w) : Calls Tryd.prog 16 #[.int .i64 0, .int .i64 4] w fun e w' => ∃ A c, e = .returned (.tuple #[.slice A 2 c, .int .i64 0]) ∧ Sl w' A 2 c (iv [1, 3]) ∧ Below w.heap.size w w' :=
  (path_ok 0 4 w in04 hT).mono fun e w' ⟨A, c, a, b, d⟩ => by rw [pl04] at a b; exact ⟨A, c, a, b.sl, d⟩
theorem lcop (w : World) (hT : Tab w) : Calls Tryd.prog 12 #[.int .i64 0, .int .i64 4] w fun e w' => ∃ A c, e = .returned (.tuple #[.slice A 2 c, .int .i64 0]) ∧ Sl w' A 2 c (iv [2, 5]) ∧ Below w.heap.size w w' :=
  (cop_ok 0 4 w in04 hT).mono fun e w' ⟨A, c, a, b, d⟩ => by rw [cl04] at a b; exact ⟨A, c, a, b.sl, d⟩
theorem lcom (w : World) (hT : Tab w) : Calls Tryd.prog 15 #[.int .i64 0, .int .i64 4, .int .i64 4] w fun e w' => e = .returned (.tuple #[.int .i64 3, .int .i64 0]) ∧ Below w.heap.size w w' :=
  (com_ok 0 4 4 w in04 in44 hT).mono fun e w' ⟨a, b⟩ => by rw [cm04] at a; exact ⟨a, b⟩
theorem llvs (w : World) (hT : Tab w) : Calls Tryd.prog 13 #[.int .i64 5] w fun e w' => e = .returned (.tuple #[.int .i64 2, .int .i64 4, .int .i64 0]) ∧ w = w' :=
  (leaves_ok 5 w (by omega) hT).mono fun e w' ⟨a, b⟩ => by rw [lo5.1, lo5.2] at a; exact ⟨a, b⟩
theorem lroot (w : World) : Calls Tryd.prog 20 #[.int .i64 4] w fun e w' => e = .returned (.tuple #[.int .i64 3, .int .i64 0]) ∧ Below w.heap.size w w' :=
  root_ok 4 w (by decide)
set_option maxRecDepth 100000 in
set_option maxHeartbeats 1000000 in
theorem lead (w : World) (hT : Tab w) : Calls Tryd.prog 11 #[] w fun e w' => e = .returned (.bool true) ∧ Below w.heap.size w w' := by
  go_enter Tryd.func11, Tryd.ntmps11
  go_wp2_with fail
  refine (lpath w hT).mono ?_; rintro e w1 ⟨A1, c1, rfl, hS1, hB1⟩
  have T1 := hT.below' hB1
  go_wp2_with fail
  refine (lcop w1 T1).mono ?_; rintro e w2 ⟨A2, c2, rfl, hS2, hB2⟩
  have T2 := T1.below' hB2
  go_wp2_with fail
  refine (lcom w2 T2).mono ?_; rintro e w3 ⟨rfl, hB3⟩
  have T3 := T2.below' hB3
  go_wp2_with fail
  refine (llvs w3 T3).mono ?_; rintro e w' ⟨rfl, rfl⟩
  go_wp2_with fail
  refine (lroot w3).mono ?_; rintro e w5 ⟨rfl, hB5⟩
  go_wp2_with fail
  have s1 := (((hS1.below hB2).below hB3).below hB5).alloc (.cells #[.int .i64 1, .int .i64 3] 3)
  refine (same_yes _ _ 2 _ _ [1, 3] _ s1 (sl_two _ 1 3 3)).mono ?_; rintro e w6 ⟨rfl, hB6⟩
  go_wp2_with fail
  have s2 := ((((hS2.below hB3).below hB5).alloc (.cells #[.int .i64 1, .int .i64 3] 3)).below hB6).alloc (.cells #[.int .i64 2, .int .i64 5] 3)
  refine (same_yes _ _ 2 _ _ [2, 5] _ s2 (sl_two _ 2 5 3)).mono ?_; rintro e w7 ⟨rfl, hB7⟩
  go_wp2_with fail
  go_ret
  exact ⟨rfl, nx (nxa (nx (nxa (nx (nx (nx hB1 hB2) hB3) hB5) _) hB6) _) hB7⟩
end Go.Proofs.YtieeinppoiihpaaDoor
