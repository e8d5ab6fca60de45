/- The walk of the law's 'live'. -/
import Derived.Test.YtjebmmmjjiomfaaJoin
namespace Go.Proofs.Ytjebmmmjjiomfaa
open Go.RowKit

theorem i15293 : intL 15293 = [123, 189] := by decide +kernel
theorem t6437 : takeI [64, 37] = (0, 0, 11) := by decide +kernel
theorem t1231899 : takeI [123, 189, 9] = (15293, 2, 0) := by decide +kernel
theorem jlB : bytesL (jl [[97], []]) = [3, 1, 97, 0] := by decide +kernel

theorem liveInt (w : World) : Calls Try.prog 16 #[.int .i64 15293] w fun e w' => ∃ A c, e = .returned (.tuple #[.slice A 2 c, .int .i64 0]) ∧ Sl w' A 2 c (bv [123, 189]) ∧ Below w.heap.size w w' :=
  (int_ok 15293 w (by omega)).mono fun e w' ⟨A, c, h1, h2, h3⟩ => by
    rw [i15293] at h1 h2; exact ⟨A, c, h1, h2.sl, h3⟩
theorem liveJoin (A : Option Addr) (c : Nat) (xs : List Value) (w : World) (h : Sl w A 2 c xs) (hb : BL w xs [[97], []]) :
    Calls Try.prog 21 #[.slice A 2 c] w fun e w' => ∃ A c, e = .returned (.tuple #[.slice A 4 c, .int .i64 0]) ∧ Sl w' A 4 c (bv [3, 1, 97, 0]) ∧ Below w.heap.size w w' :=
  (join_ok A 2 c xs [[97], []] w h hb (by intro l hl; simp at hl; rcases hl with rfl | rfl <;> decide) (by show _ < _; decide +kernel)).mono fun e w' ⟨A, c, h1, h2, h3⟩ => by
    rw [jlB] at h1 h2; exact ⟨A, c, h1, h2.sl, h3⟩
theorem liveT1 (A : Option Addr) (c : Nat) (w : World) (h : Sl w A 2 c (bv [64, 37])) :
    Calls Try.prog 17 #[.slice A 2 c] w fun e w' => e = .returned (.tuple #[.int .i64 0, .int .i64 0, .int .i64 11]) ∧ w = w' :=
  (takeInt_any A 2 c _ w h).mono fun e w' ⟨h1, h2⟩ => by rw [t6437] at h1; exact ⟨h1, h2⟩
theorem liveT2 (A : Option Addr) (c : Nat) (w : World) (h : Sl w A 3 c (bv [123, 189, 9])) :
    Calls Try.prog 17 #[.slice A 3 c] w fun e w' => e = .returned (.tuple #[.int .i64 15293, .int .i64 2, .int .i64 0]) ∧ w = w' :=
  (takeInt_any A 3 c _ w h).mono fun e w' ⟨h1, h2⟩ => by rw [t1231899] at h1; exact ⟨h1, h2⟩

theorem sl2 (w : World) : Sl (w.alloc (.cells #[.int .u8 64, .int .u8 37] 5)) (some ⟨w.heap.size, 0, none⟩) 2 2 (bv [64, 37]) :=
  ⟨rfl, by omega, by unfold maxLen; omega, lies_cells w #[.int .u8 64, .int .u8 37] 5⟩
theorem sl3 (w : World) (g : Nat) (hg : w.heap.size = g) : Sl (w.alloc (.cells #[.int .u8 123, .int .u8 189, .int .u8 9] 5)) (some ⟨g, 0, none⟩) 3 3 (bv [123, 189, 9]) := by
  subst hg; exact ⟨rfl, by omega, by unfold maxLen; omega, lies_cells w #[.int .u8 123, .int .u8 189, .int .u8 9] 5⟩
set_option maxRecDepth 100000 in
set_option maxHeartbeats 1000000 in
theorem lead (w : World) : Calls Try.prog 15 #[] w fun e w' => e = .returned (.bool true) ∧ Below w.heap.size w w' := by
  go_enter Try.func15, Try.ntmps15
  have kc := fun (w : World) (C : Array Value) (n c : Nat) => Lib.run_convert_bytes_const (P := Try.prog) w 23 5 C n c Try.underlying23 Try.underlying5
  go_wp2_with fail
  refine (liveInt w).mono ?_; rintro e w1 ⟨A1, c1, rfl, hS1, hB1⟩
  go_wp2_with fail
  have hA : ∀ o : Obj, Sl ((w1.alloc (.cells #[.int .u8 97] 5 (1, 2))).alloc o) (some ⟨w1.heap.size, 0, none⟩) 1 1 (bv [97]) := fun o => (⟨rfl, by omega, by unfold maxLen; omega, lies_cells_fr _ _ _ _⟩ : Sl (w1.alloc (.cells #[.int .u8 97] 5 (1, 2))) (some ⟨w1.heap.size, 0, none⟩) 1 1 (bv [97])).alloc o
  have hX : Sl ((w1.alloc (.cells #[.int .u8 97] 5 (1, 2))).alloc (.cells #[.slice (some ⟨w1.heap.size, 0, none⟩) 1 1, .slice none 0 0] 23)) (some ⟨w1.heap.size + 1, 0, none⟩) 2 2 [.slice (some ⟨w1.heap.size, 0, none⟩) 1 1, .slice none 0 0] :=
    ⟨rfl, by omega, by unfold maxLen; omega, by
      have := lies_cells (w1.alloc (.cells #[.int .u8 97] 5 (1, 2))) #[.slice (some ⟨w1.heap.size, 0, none⟩) 1 1, .slice none 0 0] 23
      simpa using this⟩
  refine (liveJoin _ _ _ _ hX (BL.two (hA _) (Sl.none _))).mono ?_
  rintro e w2 ⟨A2, c2, rfl, hS2, hB2⟩
  go_wp2_with fail
  refine (liveT1 _ _ _ (sl2 w2)).mono ?_
  rintro e w' ⟨rfl, rfl⟩
  go_wp2_with fail
  refine (liveT2 _ _ _ (sl3 _ _ (World.size_alloc _ _))).mono ?_
  rintro e w' ⟨rfl, rfl⟩
  have hB := (nx (nxa (nxa hB1 _) _) hB2)
  have q3 := fun o o' => (((((hS1.alloc (.cells #[.int .u8 97] 5 (1, 2))).alloc (.cells #[.slice (some ⟨w1.heap.size, 0, none⟩) 1 1, .slice none 0 0] 23)).below hB2).alloc o).alloc o') |>.str (P := Try.prog) Try.underlying23 Try.underlying5 Try.underlying9
  have q4 := fun o o' => ((hS2.alloc o).alloc o') |>.str (P := Try.prog) Try.underlying23 Try.underlying5 Try.underlying9
  clear kc hA hX
  go_wp2_with fail
  go_ret
  exact ⟨rfl, nxa (nxa hB _) _⟩
end Go.Proofs.Ytjebmmmjjiomfaa
