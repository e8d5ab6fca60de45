/- The walk of the reference's SameWelcome. -/
import Derived.Test.YtjebmmmjjiomfaaCWelW
namespace Go.Proofs.Ytjebmmmjjiomfaa
open Go.RowKit

theorem wm_iff (x y : WM) : (x.at_ = y.at_ ∧ x.by_ = y.by_ ∧ x.id = y.id ∧ x.epoch = y.epoch ∧ x.tree = y.tree ∧ x.conf = y.conf ∧ x.ext = y.ext ∧ x.sig = y.sig ∧ x.tag = y.tag ∧ x.sealed_ = y.sealed_) ↔ x = y := by
  obtain ⟨a, b, c, d, e, f, g, h, i, j⟩ := x
  obtain ⟨a', b', c', d', e', f', g', h', i', j'⟩ := y
  simp
instance : DecidableEq WM := fun x y => decidable_of_iff _ (wm_iff x y)
set_option maxRecDepth 100000 in
set_option maxHeartbeats 8000000 in
theorem samewelcome_any (A B : Option Addr) (n m c d : Nat) (x y : WM) (w : World) (h : Ts w A n c x.tree) (k : Ts w B m d y.tree) :
    Calls Try.prog 44 #[wv x A n c, wv y B m d] w fun e w' => e = .returned (.bool (decide (x = y))) ∧ Below w.heap.size w w' := by
  obtain ⟨a0, a1, a2, a3, a4, a5, a6, a7, a8, a9⟩ := x
  obtain ⟨b0, b1, b2, b3, b4, b5, b6, b7, b8, b9⟩ := y
  dsimp only at h k
  unfold wv
  have hBa : Below w.heap.size w ((w.alloc (.cells #[.int .i64 a0, .int .i64 a1, .int .i64 a2, .int .i64 a3, .slice A n c, .int .i64 a5, .int .i64 a6, .int .i64 a7, .int .i64 a8, .int .i64 a9] 58)).alloc (.cells #[.int .i64 b0, .int .i64 b1, .int .i64 b2, .int .i64 b3, .slice B m d, .int .i64 b5, .int .i64 b6, .int .i64 b7, .int .i64 b8, .int .i64 b9] 58)) := nxa (nxa (Below.refl _ _) _) _
  have HC := Lib.hid (rsame_any A B n m c d a4 b4 _ (h.below hBa) (k.below hBa))
  obtain ⟨g, hg⟩ : ∃ g, w.heap.size = g := ⟨_, rfl⟩
  have K0 : Hid (((w.alloc (.cells #[.int .i64 a0, .int .i64 a1, .int .i64 a2, .int .i64 a3, .slice A n c, .int .i64 a5, .int .i64 a6, .int .i64 a7, .int .i64 a8, .int .i64 a9] 58)).alloc (.cells #[.int .i64 b0, .int .i64 b1, .int .i64 b2, .int .i64 b3, .slice B m d, .int .i64 b5, .int .i64 b6, .int .i64 b7, .int .i64 b8, .int .i64 b9] 58)).heap[g]? = some (.cells #[.int .i64 a0, .int .i64 a1, .int .i64 a2, .int .i64 a3, .slice A n c, .int .i64 a5, .int .i64 a6, .int .i64 a7, .int .i64 a8, .int .i64 a9] 58)) := Lib.hid (by
    rw [Below.heap_alloc _ _ _ (by simp; omega), ← hg]; exact heap_alloc_new _ _)
  have K1 : Hid (((w.alloc (.cells #[.int .i64 a0, .int .i64 a1, .int .i64 a2, .int .i64 a3, .slice A n c, .int .i64 a5, .int .i64 a6, .int .i64 a7, .int .i64 a8, .int .i64 a9] 58)).alloc (.cells #[.int .i64 b0, .int .i64 b1, .int .i64 b2, .int .i64 b3, .slice B m d, .int .i64 b5, .int .i64 b6, .int .i64 b7, .int .i64 b8, .int .i64 b9] 58)).heap[g + 1]? = some (.cells #[.int .i64 b0, .int .i64 b1, .int .i64 b2, .int .i64 b3, .slice B m d, .int .i64 b5, .int .i64 b6, .int .i64 b7, .int .i64 b8, .int .i64 b9] 58)) := Lib.hid (by
    have := heap_alloc_new (w.alloc (.cells #[.int .i64 a0, .int .i64 a1, .int .i64 a2, .int .i64 a3, .slice A n c, .int .i64 a5, .int .i64 a6, .int .i64 a7, .int .i64 a8, .int .i64 a9] 58)) (.cells #[.int .i64 b0, .int .i64 b1, .int .i64 b2, .int .i64 b3, .slice B m d, .int .i64 b5, .int .i64 b6, .int .i64 b7, .int .i64 b8, .int .i64 b9] 58)
    rwa [show (w.alloc (.cells #[.int .i64 a0, .int .i64 a1, .int .i64 a2, .int .i64 a3, .slice A n c, .int .i64 a5, .int .i64 a6, .int .i64 a7, .int .i64 a8, .int .i64 a9] 58)).heap.size = g + 1 by simp [hg]] at this)
  have HB := Lib.hid hBa
  clear hBa h k
  by_cases e0 : a0 = b0
  case neg =>
    have HD : Hid (decide ((⟨a0, a1, a2, a3, a4, a5, a6, a7, a8, a9⟩ : WM) = ⟨b0, b1, b2, b3, b4, b5, b6, b7, b8, b9⟩) = false) := Lib.hid (decide_eq_false (fun e => e0 (congrArg WM.at_ e)))
    rw [HD.out]
    have t : (a0 == b0) = false := by rw [beq_eq_false_iff_ne]; exact e0
    clear e0
    go_enter Try.func44, Try.ntmps44
    go_wp2_with fail
    go_ret
    exact ⟨rfl, HB.out⟩
  subst e0
  by_cases e1 : a1 = b1
  case neg =>
    have HD : Hid (decide ((⟨a0, a1, a2, a3, a4, a5, a6, a7, a8, a9⟩ : WM) = ⟨a0, b1, b2, b3, b4, b5, b6, b7, b8, b9⟩) = false) := Lib.hid (decide_eq_false (fun e => e1 (congrArg WM.by_ e)))
    rw [HD.out]
    have t : (a1 == b1) = false := by rw [beq_eq_false_iff_ne]; exact e1
    clear e1
    go_enter Try.func44, Try.ntmps44
    go_wp2_with fail
    go_ret
    exact ⟨rfl, HB.out⟩
  subst e1
  by_cases e2 : a2 = b2
  case neg =>
    have HD : Hid (decide ((⟨a0, a1, a2, a3, a4, a5, a6, a7, a8, a9⟩ : WM) = ⟨a0, a1, b2, b3, b4, b5, b6, b7, b8, b9⟩) = false) := Lib.hid (decide_eq_false (fun e => e2 (congrArg WM.id e)))
    rw [HD.out]
    have t : (a2 == b2) = false := by rw [beq_eq_false_iff_ne]; exact e2
    clear e2
    go_enter Try.func44, Try.ntmps44
    go_wp2_with fail
    go_ret
    exact ⟨rfl, HB.out⟩
  subst e2
  by_cases e3 : a3 = b3
  case neg =>
    have HD : Hid (decide ((⟨a0, a1, a2, a3, a4, a5, a6, a7, a8, a9⟩ : WM) = ⟨a0, a1, a2, b3, b4, b5, b6, b7, b8, b9⟩) = false) := Lib.hid (decide_eq_false (fun e => e3 (congrArg WM.epoch e)))
    rw [HD.out]
    have t : (a3 == b3) = false := by rw [beq_eq_false_iff_ne]; exact e3
    clear e3
    go_enter Try.func44, Try.ntmps44
    go_wp2_with fail
    go_ret
    exact ⟨rfl, HB.out⟩
  subst e3
  by_cases e4 : a4 = b4
  case neg =>
    have HD : Hid (decide ((⟨a0, a1, a2, a3, a4, a5, a6, a7, a8, a9⟩ : WM) = ⟨a0, a1, a2, a3, b4, b5, b6, b7, b8, b9⟩) = false) := Lib.hid (decide_eq_false (fun e => e4 (congrArg WM.tree e)))
    rw [HD.out]
    rw [decide_eq_false e4] at HC
    clear e4
    go_enter Try.func44, Try.ntmps44
    go_wp2_with (go_at_call 38; refine HC.out.mono ?_; rintro e w1 ⟨rfl, hB1⟩)
    go_ret
    exact ⟨rfl, nx HB.out hB1⟩
  subst e4
  rw [decide_eq_true rfl] at HC
  by_cases e5 : a5 = b5
  case neg =>
    have HD : Hid (decide ((⟨a0, a1, a2, a3, a4, a5, a6, a7, a8, a9⟩ : WM) = ⟨a0, a1, a2, a3, a4, b5, b6, b7, b8, b9⟩) = false) := Lib.hid (decide_eq_false (fun e => e5 (congrArg WM.conf e)))
    rw [HD.out]
    have t : (a5 == b5) = false := by rw [beq_eq_false_iff_ne]; exact e5
    clear e5
    go_enter Try.func44, Try.ntmps44
    go_wp2_with (go_at_call 38; refine HC.out.mono ?_; rintro e w1 ⟨rfl, hB1⟩; have m0 := (hB1.block g (by simp; omega)).trans K0.out; have m1 := (hB1.block (g + 1) (by simp; omega)).trans K1.out; have g5 := cell_of m0 5; have g6 := cell_of m0 6; have g7 := cell_of m0 7; have g8 := cell_of m0 8; have g9 := cell_of m0 9; have d5 := cell_of m1 5; have d6 := cell_of m1 6; have d7 := cell_of m1 7; have d8 := cell_of m1 8; have d9 := cell_of m1 9; clear m0 m1)
    go_ret
    exact ⟨rfl, nx HB.out hB1⟩
  subst e5
  by_cases e6 : a6 = b6
  case neg =>
    have HD : Hid (decide ((⟨a0, a1, a2, a3, a4, a5, a6, a7, a8, a9⟩ : WM) = ⟨a0, a1, a2, a3, a4, a5, b6, b7, b8, b9⟩) = false) := Lib.hid (decide_eq_false (fun e => e6 (congrArg WM.ext e)))
    rw [HD.out]
    have t : (a6 == b6) = false := by rw [beq_eq_false_iff_ne]; exact e6
    clear e6
    go_enter Try.func44, Try.ntmps44
    go_wp2_with (go_at_call 38; refine HC.out.mono ?_; rintro e w1 ⟨rfl, hB1⟩; have m0 := (hB1.block g (by simp; omega)).trans K0.out; have m1 := (hB1.block (g + 1) (by simp; omega)).trans K1.out; have g5 := cell_of m0 5; have g6 := cell_of m0 6; have g7 := cell_of m0 7; have g8 := cell_of m0 8; have g9 := cell_of m0 9; have d5 := cell_of m1 5; have d6 := cell_of m1 6; have d7 := cell_of m1 7; have d8 := cell_of m1 8; have d9 := cell_of m1 9; clear m0 m1)
    go_ret
    exact ⟨rfl, nx HB.out hB1⟩
  subst e6
  by_cases e7 : a7 = b7
  case neg =>
    have HD : Hid (decide ((⟨a0, a1, a2, a3, a4, a5, a6, a7, a8, a9⟩ : WM) = ⟨a0, a1, a2, a3, a4, a5, a6, b7, b8, b9⟩) = false) := Lib.hid (decide_eq_false (fun e => e7 (congrArg WM.sig e)))
    rw [HD.out]
    have t : (a7 == b7) = false := by rw [beq_eq_false_iff_ne]; exact e7
    clear e7
    go_enter Try.func44, Try.ntmps44
    go_wp2_with (go_at_call 38; refine HC.out.mono ?_; rintro e w1 ⟨rfl, hB1⟩; have m0 := (hB1.block g (by simp; omega)).trans K0.out; have m1 := (hB1.block (g + 1) (by simp; omega)).trans K1.out; have g5 := cell_of m0 5; have g6 := cell_of m0 6; have g7 := cell_of m0 7; have g8 := cell_of m0 8; have g9 := cell_of m0 9; have d5 := cell_of m1 5; have d6 := cell_of m1 6; have d7 := cell_of m1 7; have d8 := cell_of m1 8; have d9 := cell_of m1 9; clear m0 m1)
    go_ret
    exact ⟨rfl, nx HB.out hB1⟩
  subst e7
  by_cases e8 : a8 = b8
  case neg =>
    have HD : Hid (decide ((⟨a0, a1, a2, a3, a4, a5, a6, a7, a8, a9⟩ : WM) = ⟨a0, a1, a2, a3, a4, a5, a6, a7, b8, b9⟩) = false) := Lib.hid (decide_eq_false (fun e => e8 (congrArg WM.tag e)))
    rw [HD.out]
    have t : (a8 == b8) = false := by rw [beq_eq_false_iff_ne]; exact e8
    clear e8
    go_enter Try.func44, Try.ntmps44
    go_wp2_with (go_at_call 38; refine HC.out.mono ?_; rintro e w1 ⟨rfl, hB1⟩; have m0 := (hB1.block g (by simp; omega)).trans K0.out; have m1 := (hB1.block (g + 1) (by simp; omega)).trans K1.out; have g5 := cell_of m0 5; have g6 := cell_of m0 6; have g7 := cell_of m0 7; have g8 := cell_of m0 8; have g9 := cell_of m0 9; have d5 := cell_of m1 5; have d6 := cell_of m1 6; have d7 := cell_of m1 7; have d8 := cell_of m1 8; have d9 := cell_of m1 9; clear m0 m1)
    go_ret
    exact ⟨rfl, nx HB.out hB1⟩
  subst e8
  by_cases e9 : a9 = b9
  case neg =>
    have HD : Hid (decide ((⟨a0, a1, a2, a3, a4, a5, a6, a7, a8, a9⟩ : WM) = ⟨a0, a1, a2, a3, a4, a5, a6, a7, a8, b9⟩) = false) := Lib.hid (decide_eq_false (fun e => e9 (congrArg WM.sealed_ e)))
    rw [HD.out]
    have t : (a9 == b9) = false := by rw [beq_eq_false_iff_ne]; exact e9
    clear e9
    go_enter Try.func44, Try.ntmps44
    go_wp2_with (go_at_call 38; refine HC.out.mono ?_; rintro e w1 ⟨rfl, hB1⟩; have m0 := (hB1.block g (by simp; omega)).trans K0.out; have m1 := (hB1.block (g + 1) (by simp; omega)).trans K1.out; have g5 := cell_of m0 5; have g6 := cell_of m0 6; have g7 := cell_of m0 7; have g8 := cell_of m0 8; have g9 := cell_of m0 9; have d5 := cell_of m1 5; have d6 := cell_of m1 6; have d7 := cell_of m1 7; have d8 := cell_of m1 8; have d9 := cell_of m1 9; clear m0 m1)
    go_ret
    exact ⟨rfl, nx HB.out hB1⟩
  subst e9
  have HD : Hid (decide ((⟨a0, a1, a2, a3, a4, a5, a6, a7, a8, a9⟩ : WM) = ⟨a0, a1, a2, a3, a4, a5, a6, a7, a8, a9⟩) = true) := Lib.hid (decide_eq_true rfl)
  rw [HD.out]
  go_enter Try.func44, Try.ntmps44
  go_wp2_with (go_at_call 38; refine HC.out.mono ?_; rintro e w1 ⟨rfl, hB1⟩; have m0 := (hB1.block g (by simp; omega)).trans K0.out; have m1 := (hB1.block (g + 1) (by simp; omega)).trans K1.out; have g5 := cell_of m0 5; have g6 := cell_of m0 6; have g7 := cell_of m0 7; have g8 := cell_of m0 8; have g9 := cell_of m0 9; have d5 := cell_of m1 5; have d6 := cell_of m1 6; have d7 := cell_of m1 7; have d8 := cell_of m1 8; have d9 := cell_of m1 9; clear m0 m1)
  go_ret
  exact ⟨rfl, nx HB.out hB1⟩
end Go.Proofs.Ytjebmmmjjiomfaa
