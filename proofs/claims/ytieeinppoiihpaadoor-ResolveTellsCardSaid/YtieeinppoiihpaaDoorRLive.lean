/- The walk of the law's 'live' (chapter Resolve). -/
import Derived.Test.YtieeinppoiihpaaDoorRMine2
namespace Go.Proofs.YtieeinppoiihpaaDoor
open Go.RowKit

def lfT : TN := ⟨1, 0, 0, 0, 0, []⟩
def zzT : TN := ⟨0, 0, 0, 0, 0, []⟩
def ppT : TN := ⟨2, 0, 0, 0, 0, [1]⟩
def tA : List TN := [lfT, zzT, lfT, zzT, lfT, zzT, lfT]
def tB : List TN := [lfT, ppT, lfT]
theorem nd_lf {t : List TN} {x : Nat} (h : x % 2 = 0) : NodeT t x lfT := .inr (.inl ⟨by decide, h, rfl, rfl⟩)
theorem nd_zz {t : List TN} {x : Nat} : NodeT t x zzT := .inl ⟨rfl, rfl, rfl, rfl, rfl, rfl, rfl⟩
theorem chkA : ChkT tA := by
  refine ⟨by decide +kernel, by decide +kernel, fun h => h 2 (by decide +kernel) (by decide +kernel) (by decide +kernel), fun x s hs => ?_⟩
  have hx : x < 7 := (List.getElem?_eq_some_iff.1 hs).1
  obtain rfl | rfl | rfl | rfl | rfl | rfl | rfl : x = 0 ∨ x = 1 ∨ x = 2 ∨ x = 3 ∨ x = 4 ∨ x = 5 ∨ x = 6 := by omega
  all_goals (simp [tA] at hs; subst hs)
  all_goals first | exact nd_lf rfl | exact nd_zz
theorem ahB : ahead 1 (pathL 2 2) = [] := by decide +kernel
theorem parB : ParT tB 1 ppT := by
  refine ⟨rfl, rfl, rfl, fun i a b h1 h2 => ?_, fun i a b h1 h2 => ?_, fun i hi => ?_⟩
  · have := (List.getElem?_eq_some_iff.1 h2).1; simp [ppT] at this
  · have := (List.getElem?_eq_some_iff.1 h2).1; simp [ppT] at this
  · simp [ppT] at hi
    subst hi
    refine ⟨by decide +kernel, by decide +kernel, by decide +kernel, ?_⟩
    intro y hy
    rw [show ahead 1 (pathL (2 * (1 : Int).toNat) (lvs tB)) = [] from ahB] at hy
    simp at hy
theorem chkB : ChkT tB := by
  refine ⟨by decide +kernel, by decide +kernel, fun h => h 1 (by decide +kernel) (by decide +kernel) (by decide +kernel), fun x s hs => ?_⟩
  have hx : x < 3 := (List.getElem?_eq_some_iff.1 hs).1
  obtain rfl | rfl | rfl : x = 0 ∨ x = 1 ∨ x = 2 := by omega
  all_goals (simp [tB] at hs; subst hs)
  · exact nd_lf rfl
  · exact .inr (.inr ⟨by decide, rfl, parB⟩)
  · exact nd_lf rfl
theorem resA : resN tA 3 = [0, 2, 4, 6] := by decide +kernel
theorem resB : resN tB 1 = [1, 2] := by decide +kernel
theorem holdB : HoldT tB 0 1 := by decide +kernel
theorem holdB1 : ¬ HoldT tB 1 1 := by decide +kernel
theorem holdB2 : HoldT tB 1 2 := by decide +kernel
def vN (k : Int) (A : Option Addr) (n : Nat) : List Value := [.int .i64 k, .int .i64 0, .int .i64 0, .int .i64 0, .int .i64 0, .slice A n n]
theorem at_lf (w : World) (b o : Nat) (k : Int) (s : TN) (A : Option Addr) (n : Nat) (hs : s = ⟨k, 0, 0, 0, 0, s.un⟩) (h : ∀ j v, (vN k A n)[j]? = some v → w.cell? ⟨b, o + j, none⟩ = some v) (hu : Sl w A n n (iv s.un)) : At6 w ⟨b, o, none⟩ s A n n := by
  rw [hs]
  exact ⟨h 0 _ rfl, h 1 _ rfl, h 2 _ rfl, h 3 _ rfl, h 4 _ rfl, h 5 _ rfl, hu⟩
def objA : Array Value := (vN 1 none 0 ++ vN 0 none 0 ++ vN 1 none 0 ++ vN 0 none 0 ++ vN 1 none 0 ++ vN 0 none 0 ++ vN 1 none 0).toArray
theorem tsA (w : World) (g : Nat) (hg : w.heap.size = g) : Ts (w.alloc (.cells objA 50)) (some ⟨g, 0, none⟩) 7 7 tA := by
  subst hg
  have key : ∀ j v, objA[j]? = some v → (w.alloc (.cells objA 50)).cell? ⟨w.heap.size, j, none⟩ = some v := fun j v h => by
    rw [World.cell?_alloc_at _ _ _ _ rfl]; exact h
  refine ⟨rfl, Nat.le_refl _, by unfold maxLen; omega, .inr ⟨_, rfl, fun k s hs => ⟨none, 0, 0, ?_⟩⟩⟩
  have hk : k < 7 := (List.getElem?_eq_some_iff.1 hs).1
  rw [add_mk, Nat.zero_add]
  obtain rfl | rfl | rfl | rfl | rfl | rfl | rfl : k = 0 ∨ k = 1 ∨ k = 2 ∨ k = 3 ∨ k = 4 ∨ k = 5 ∨ k = 6 := by omega
  all_goals (simp [tA] at hs; subst hs)
  all_goals first
    | exact at_lf _ _ _ 1 lfT none 0 rfl (fun j v h => key _ v (by match j, h with | 0, h => exact h | 1, h => exact h | 2, h => exact h | 3, h => exact h | 4, h => exact h | 5, h => exact h)) (Sl.none _)
    | exact at_lf _ _ _ 0 zzT none 0 rfl (fun j v h => key _ v (by match j, h with | 0, h => exact h | 1, h => exact h | 2, h => exact h | 3, h => exact h | 4, h => exact h | 5, h => exact h)) (Sl.none _)
def objB (U : Option Addr) : Array Value := (vN 1 none 0 ++ vN 2 U 1 ++ vN 1 none 0).toArray
theorem tsB (w : World) (g : Nat) (U : Option Addr) (hg : w.heap.size = g) (hu : Sl w U 1 1 (iv [1])) : Ts (w.alloc (.cells (objB U) 50)) (some ⟨g, 0, none⟩) 3 3 tB := by
  subst hg
  have key : ∀ j v, (objB U)[j]? = some v → (w.alloc (.cells (objB U) 50)).cell? ⟨w.heap.size, j, none⟩ = some v := fun j v h => by
    rw [World.cell?_alloc_at _ _ _ _ rfl]; exact h
  have hu' := hu.alloc (.cells (objB U) 50)
  refine ⟨rfl, Nat.le_refl _, by unfold maxLen; omega, .inr ⟨_, rfl, fun k s hs => ?_⟩⟩
  have hk : k < 3 := (List.getElem?_eq_some_iff.1 hs).1
  rw [add_mk, Nat.zero_add]
  obtain rfl | rfl | rfl : k = 0 ∨ k = 1 ∨ k = 2 := by omega
  all_goals (simp [tB] at hs; subst hs)
  · exact ⟨none, 0, 0, at_lf _ _ _ 1 lfT none 0 rfl (fun j v h => key _ v (by match j, h with | 0, h => exact h | 1, h => exact h | 2, h => exact h | 3, h => exact h | 4, h => exact h | 5, h => exact h)) (Sl.none _)⟩
  · exact ⟨U, 1, 1, at_lf _ _ _ 2 ppT U 1 rfl (fun j v h => key _ v (by match j, h with | 0, h => exact h | 1, h => exact h | 2, h => exact h | 3, h => exact h | 4, h => exact h | 5, h => exact h)) hu'⟩
  · exact ⟨none, 0, 0, at_lf _ _ _ 1 lfT none 0 rfl (fun j v h => key _ v (by match j, h with | 0, h => exact h | 1, h => exact h | 2, h => exact h | 3, h => exact h | 4, h => exact h | 5, h => exact h)) (Sl.none _)⟩
theorem wfA : Hid (∀ s ∈ tA, TWf s) := Lib.hid (by intro s hs; simp [tA] at hs; rcases hs with rfl | rfl | rfl | rfl | rfl | rfl | rfl <;> simp [TWf, W64, lfT, zzT])
theorem wfB : Hid (∀ s ∈ tB, TWf s) := Lib.hid (by intro s hs; simp [tB] at hs; rcases hs with rfl | rfl | rfl <;> simp [TWf, W64, lfT, ppT])
theorem unA : Hid (∀ s ∈ tA, s.un.length ≤ 1000) := Lib.hid (by intro s hs; simp [tA] at hs; rcases hs with rfl | rfl | rfl | rfl | rfl | rfl | rfl <;> simp [lfT, zzT])
theorem unB : Hid (∀ s ∈ tB, s.un.length ≤ 1000) := Lib.hid (by intro s hs; simp [tB] at hs; rcases hs with rfl | rfl | rfl <;> simp [lfT, ppT])
theorem lresA (A : Option Addr) (W : World) (h : Ts W A 7 7 tA) (hT : Tab W) :
    Calls Tryd.prog 39 #[.slice A 7 7, .int .i64 3] W fun e w' => ∃ B d, e = .returned (.tuple #[.slice B 4 d, .int .i64 0]) ∧ Sl w' B 4 d (iv [0, 2, 4, 6]) ∧ Below W.heap.size W w' :=
  (res_yes A 7 7 tA 3 W h (by omega) wfA unA hT ⟨chkA, by decide, by decide⟩).mono fun e w' ⟨B, d, a, b, q⟩ => by rw [resA] at a b; exact ⟨B, d, a, b.sl, q⟩
theorem lresB (A : Option Addr) (W : World) (h : Ts W A 3 3 tB) (hT : Tab W) :
    Calls Tryd.prog 39 #[.slice A 3 3, .int .i64 1] W fun e w' => ∃ B d, e = .returned (.tuple #[.slice B 2 d, .int .i64 0]) ∧ Sl w' B 2 d (iv [1, 2]) ∧ Below W.heap.size W w' :=
  (res_yes A 3 3 tB 1 W h (by omega) wfB unB hT ⟨chkB, by decide, by decide⟩).mono fun e w' ⟨B, d, a, b, q⟩ => by rw [resB] at a b; exact ⟨B, d, a, b.sl, q⟩
theorem lmineB (A : Option Addr) (W : World) (h : Ts W A 3 3 tB) (hT : Tab W) :
    Calls Tryd.prog 43 #[.slice A 3 3, .int .i64 1, .int .i64 1] W fun e w' => e = .returned (.tuple #[.int .i64 2, .int .i64 0]) ∧ Below W.heap.size W w' :=
  (mine_yes A 3 3 tB 1 1 W h (by omega) wfB unB hT ⟨chkB, by decide, by decide⟩ ⟨chkB, by decide, by decide⟩).mono fun e w' ⟨y, r, a, b, q⟩ => by
    rw [resB] at b
    rcases b with ⟨rfl, hy, hh⟩ | ⟨_, _, hh⟩
    · simp at hy
      rcases hy with rfl | rfl
      · exact absurd hh holdB1
      · exact ⟨a, q⟩
    · exact absurd holdB2 (hh 2 (by simp))
theorem lholdB (A : Option Addr) (W : World) (h : Ts W A 3 3 tB) (hT : Tab W) :
    Calls Tryd.prog 41 #[.slice A 3 3, .int .i64 0, .int .i64 1] W fun e w' => e = .returned (.tuple #[.bool true, .int .i64 0]) ∧ Below W.heap.size W w' :=
  (hold_yes A 3 3 tB 0 1 W h (by omega) wfB unB hT ⟨chkB, by decide, by decide⟩ ⟨chkB, by decide, by decide⟩).mono fun e w' ⟨a, q⟩ => by
    rw [decide_eq_true holdB] at a; exact ⟨a, q⟩
theorem sl_four (w : World) (a b c d : Int) (t : TypeId) (g : Nat) (hg : w.heap.size = g) : Sl (w.alloc (.cells #[.int .i64 a, .int .i64 b, .int .i64 c, .int .i64 d] t)) (some ⟨g, 0, none⟩) 4 4 (iv [a, b, c, d]) := by
  subst hg
  refine ⟨rfl, by omega, by unfold maxLen; omega, .inr ⟨_, rfl, fun j x hx => ?_⟩⟩
  match j, hx with
  | 0, hx => simp [iv] at hx; subst hx; simp [Addr.add]
  | 1, hx => simp [iv] at hx; subst hx; simp [Addr.add]
  | 2, hx => simp [iv] at hx; subst hx; simp [Addr.add]
  | 3, hx => simp [iv] at hx; subst hx; simp [Addr.add]
theorem sl_one (w : World) (a : Int) (t : TypeId) (g : Nat) (hg : w.heap.size = g) : Sl (w.alloc (.cells #[.int .i64 a] t)) (some ⟨g, 0, none⟩) 1 1 (iv [a]) := by
  subst hg
  refine ⟨rfl, by omega, by unfold maxLen; omega, .inr ⟨_, rfl, fun j x hx => ?_⟩⟩
  match j, hx with
  | 0, hx => simp [iv] at hx; subst hx; simp [Addr.add]
set_option maxRecDepth 100000 in
set_option maxHeartbeats 8000000 in
theorem live_ok (w : World) (hT : Tab w) :
    Calls Tryd.prog 36 #[] w fun e w' => e = .returned (.bool true) ∧ Below w.heap.size w w' := by
  go_enter Tryd.func36, Tryd.ntmps36
  go_wp2_with fail
  have b1 := (Bx6.new w lfT none 0 0 50).below (((Below.refl _ _).alloc (Nat.le_refl _) (.cells #[.int .i64 1] 3)).alloc (by simp) (.cells #[.int .i64 2, .int .i64 0, .int .i64 0, .int .i64 0, .int .i64 0, .slice (some ⟨w.heap.size + 1, 0, none⟩) 1 1] 50)) (by simp)
  have n1 := (sl_one (w.alloc (.cells #[.int .i64 1, .int .i64 0, .int .i64 0, .int .i64 0, .int .i64 0, .slice none 0 0] 50)) 1 3 (w.heap.size + 1) (by simp)).alloc (.cells #[.int .i64 2, .int .i64 0, .int .i64 0, .int .i64 0, .int .i64 0, .slice (some ⟨w.heap.size + 1, 0, none⟩) 1 1] 50)
  have b2 := Bx6.new ((w.alloc (.cells #[.int .i64 1, .int .i64 0, .int .i64 0, .int .i64 0, .int .i64 0, .slice none 0 0] 50)).alloc (.cells #[.int .i64 1] 3)) ppT (some ⟨w.heap.size + 1, 0, none⟩) 1 1 50
  have hB0 := nxa (nxa (nxa (Below.refl w.heap.size w) (.cells #[.int .i64 1, .int .i64 0, .int .i64 0, .int .i64 0, .int .i64 0, .slice none 0 0] 50)) (.cells #[.int .i64 1] 3)) (.cells #[.int .i64 2, .int .i64 0, .int .i64 0, .int .i64 0, .int .i64 0, .slice (some ⟨w.heap.size + 1, 0, none⟩) 1 1] 50)
  have e2 : ((w.alloc (.cells #[.int .i64 1, .int .i64 0, .int .i64 0, .int .i64 0, .int .i64 0, .slice none 0 0] 50)).alloc (.cells #[.int .i64 1] 3)).heap.size = w.heap.size + 1 + 1 := by simp
  rw [e2] at b2
  have e3 : (((w.alloc (.cells #[.int .i64 1, .int .i64 0, .int .i64 0, .int .i64 0, .int .i64 0, .slice none 0 0] 50)).alloc (.cells #[.int .i64 1] 3)).alloc (.cells #[.int .i64 2, .int .i64 0, .int .i64 0, .int .i64 0, .int .i64 0, .slice (some ⟨w.heap.size + 1, 0, none⟩) 1 1] 50)).heap.size = w.heap.size + 1 + 1 + 1 := by simp
  have b2 : Bx6 (((w.alloc (.cells #[.int .i64 1, .int .i64 0, .int .i64 0, .int .i64 0, .int .i64 0, .slice none 0 0] 50)).alloc (.cells #[.int .i64 1] 3)).alloc (.cells #[.int .i64 2, .int .i64 0, .int .i64 0, .int .i64 0, .int .i64 0, .slice (some ⟨w.heap.size + 1, 0, none⟩) 1 1] 50)) (w.heap.size + 1 + 1) ppT (some ⟨w.heap.size + 1, 0, none⟩) 1 1 := b2
  have b1 : Bx6 (((w.alloc (.cells #[.int .i64 1, .int .i64 0, .int .i64 0, .int .i64 0, .int .i64 0, .slice none 0 0] 50)).alloc (.cells #[.int .i64 1] 3)).alloc (.cells #[.int .i64 2, .int .i64 0, .int .i64 0, .int .i64 0, .int .i64 0, .slice (some ⟨w.heap.size + 1, 0, none⟩) 1 1] 50)) w.heap.size lfT none 0 0 := b1
  clear e2
  obtain ⟨w3, hw3⟩ : ∃ w3, ((w.alloc (.cells #[.int .i64 1, .int .i64 0, .int .i64 0, .int .i64 0, .int .i64 0, .slice none 0 0] 50)).alloc (.cells #[.int .i64 1] 3)).alloc (.cells #[.int .i64 2, .int .i64 0, .int .i64 0, .int .i64 0, .int .i64 0, .slice (some ⟨w.heap.size + 1, 0, none⟩) 1 1] 50) = w3 := ⟨_, rfl⟩
  rw [hw3] at b1 b2 n1 hB0 e3 ⊢
  obtain ⟨g, hg⟩ : ∃ g, w.heap.size = g := ⟨_, rfl⟩
  have HG := Lib.hid hg
  rw [hg] at b1 b2 n1 e3 ⊢
  have hT3 := hT.below' hB0
  clear hw3 hg
  refine (lresA _ _ (tsA w3 (g + 1 + 1 + 1) e3) (hT3.alloc _)).mono ?_; rintro e w4 ⟨A4, c4, rfl, hS4, hB4⟩
  have hB34 : Below w3.heap.size w3 w4 := ((Below.refl _ w3).alloc (Nat.le_refl _) _).trans (hB4.mono (by simp))
  have x1 := b1.below hB34 (by omega)
  have x2 := b2.below hB34 (by omega)
  have a0 : w4.cell? ⟨g, 0, none⟩ = some (.int .i64 1) := x1.c0
  have a1 : w4.cell? ⟨g, 1, none⟩ = some (.int .i64 0) := x1.c1
  have a2 : w4.cell? ⟨g, 2, none⟩ = some (.int .i64 0) := x1.c2
  have a3 : w4.cell? ⟨g, 3, none⟩ = some (.int .i64 0) := x1.c3
  have a4 : w4.cell? ⟨g, 4, none⟩ = some (.int .i64 0) := x1.c4
  have a5 : w4.cell? ⟨g, 5, none⟩ = some (.slice none 0 0) := x1.c5
  have d0 : w4.cell? ⟨g + 1 + 1, 0, none⟩ = some (.int .i64 2) := x2.c0
  have d1 : w4.cell? ⟨g + 1 + 1, 1, none⟩ = some (.int .i64 0) := x2.c1
  have d2 : w4.cell? ⟨g + 1 + 1, 2, none⟩ = some (.int .i64 0) := x2.c2
  have d3 : w4.cell? ⟨g + 1 + 1, 3, none⟩ = some (.int .i64 0) := x2.c3
  have d4 : w4.cell? ⟨g + 1 + 1, 4, none⟩ = some (.int .i64 0) := x2.c4
  have d5 : w4.cell? ⟨g + 1 + 1, 5, none⟩ = some (.slice (some ⟨g + 1, 0, none⟩) 1 1) := x2.c5
  have n4 := n1.below hB34
  have hT4 := hT3.below' hB34
  have hBw4 : Below w.heap.size w w4 := hB0.trans (hB34.mono hB0.size)
  clear x1 x2 b1 b2 n1 hB4 hB34 hB0 e3 hT3
  go_wp2_with fail
  have hTB := tsB w4 w4.heap.size (some ⟨g + 1, 0, none⟩) rfl n4
  have hT5 := hT4.alloc (.cells (objB (some ⟨g + 1, 0, none⟩)) 50)
  refine (lresB _ _ hTB hT5).mono ?_; rintro e w6 ⟨A6, c6, rfl, hS6, hB6⟩
  have hBw6 : Below w.heap.size w w6 := nx (nxa hBw4 _) hB6
  have hTB6 := hTB.below hB6
  have hT6 := hT5.below' hB6
  have hS46 := (hS4.alloc (.cells (objB (some ⟨g + 1, 0, none⟩)) 50)).below hB6
  clear a0 a1 a2 a3 a4 a5 d0 d1 d2 d3 d4 d5 hTB hT5 hB6 hS4 hT4
  go_wp2_with fail
  refine (lmineB _ _ hTB6 hT6).mono ?_; rintro e w7 ⟨rfl, hB7⟩
  go_wp2_with fail
  refine (lholdB _ _ (hTB6.below hB7) (hT6.below' hB7)).mono ?_; rintro e w8 ⟨rfl, hB8⟩
  have hBw8 := nx (nx hBw6 hB7) hB8
  have s1 := (((hS46.below hB7).below hB8).alloc (.cells #[.int .i64 0, .int .i64 2, .int .i64 4, .int .i64 6] 3))
  have s2 := (((hS6.below hB7).below hB8).alloc (.cells #[.int .i64 0, .int .i64 2, .int .i64 4, .int .i64 6] 3))
  clear hB7 hB8 hTB6 hT6 hS46 hS6
  go_wp2_with fail
  refine (same_yes _ _ 4 _ _ [0, 2, 4, 6] _ s1 (sl_four w8 0 2 4 6 3 w8.heap.size rfl)).mono ?_; rintro e w9 ⟨rfl, hB9⟩
  have s3 := (s2.below hB9).alloc (.cells #[.int .i64 1, .int .i64 2] 3)
  have hBw9 := nx (nxa hBw8 _) hB9
  clear s1 s2 hB9
  go_wp2_with fail
  refine (same_yes _ _ 2 _ _ [1, 2] _ s3 (sl_two w9 1 2 3)).mono ?_; rintro e w10 ⟨rfl, hB10⟩
  have hBw10 := nx (nxa hBw9 _) hB10
  clear hB10 s3
  go_wp2_with fail
  go_ret
  exact ⟨rfl, hBw10⟩
end Go.Proofs.YtieeinppoiihpaaDoor
