/- The walks of the arena's small functions: Len, has, arity, known, IndexFunc, ContainsFunc, Clone. -/
import Derived.Test.YthbfaledmoobjaaDoorArena
import Derived.WalkKit
import Derived.Lib.Hide
namespace Go.Proofs.YthbfaledmoobjaaDoor
open Go.RowKit

theorem E26 : Elem Tryd.prog 26 3 (.int .i64 0) 1 8 := ⟨Tryd.underlying26, by kernel_rfl, rfl, by omega⟩
theorem E50 : Elem Tryd.prog 50 56 (.agg #[.int .i64 0, .int .i64 0, .string ⟨#[]⟩, .slice none 0 0]) 4 56 := ⟨Tryd.underlying50, by kernel_rfl, rfl, by omega⟩
theorem len_ok (base b : Nat) (ns : List NN) (w : World) (h : AR w base b ns) :
    Calls Tryd.prog 11 #[.pointer (some ⟨b, 0, none⟩)] w fun e w' => e = .returned (.int .i64 (ns.length : Int)) ∧ w = w' := by
  obtain ⟨A, c, M, c0, c1⟩ := h.fields
  clear h
  go_enter Tryd.func11, Tryd.ntmps11
  go_wp2_with fail
  go_ret
  exact ⟨rfl, rfl⟩
theorem has_ok (base b : Nat) (ns : List NN) (t : Int) (w : World) (h : AR w base b ns) :
    Calls Tryd.prog 41 #[.pointer (some ⟨b, 0, none⟩), .int .i64 t] w fun e w' => e = .returned (.bool (hasF ns t)) ∧ w = w' := by
  obtain ⟨A, c, M, c0, c1⟩ := h.fields
  clear h
  by_cases h0 : 0 ≤ t
  · have t1 : decide (0 ≤ t) = true := decide_eq_true h0
    have HD : Hid (hasF ns t = decide (t < (ns.length : Int))) := Lib.hid (by unfold hasF; rw [t1, Bool.true_and])
    clear h0
    go_enter Tryd.func41, Tryd.ntmps41
    go_wp2_with fail
    go_ret
    exact ⟨by rw [HD.out]; rfl, rfl⟩
  · have t1 : decide (0 ≤ t) = false := decide_eq_false h0
    have HD : Hid (hasF ns t = false) := Lib.hid (by unfold hasF; rw [t1, Bool.false_and])
    clear h0
    go_enter Tryd.func41, Tryd.ntmps41
    go_wp2_with fail
    go_ret
    exact ⟨by rw [HD.out]; rfl, rfl⟩
theorem clone_ok (A : Option Addr) (n c : Nat) (l : List Int) (w : World) (h : Sl w A n c (iv l)) (hn : n * 8 ≤ 140737488351232) :
    Calls Tryd.prog 40 #[.slice A n c] w fun e w' => ∃ A' c', e = .returned (.slice A' n c') ∧ Ow w' w.heap.size 3 1 A' n c' (iv l) ∧ Below w.heap.size w w' := by
  have q := fun (w : World) => Lib.run_eql_slice_nil (P := Tryd.prog) w 26 3 A n c 0 0 Tryd.underlying26
  have hl := h.len
  rcases A with _ | ad
  · have h0 : l = [] := by
      rcases h.lies with e | ⟨ad, e, _⟩
      · simpa [iv] using e
      · cases e
    subst h0
    obtain rfl : n = 0 := by simpa [iv] using hl.symm
    clear h hl
    go_enter Tryd.func40, Tryd.ntmps40
    go_wp2_with fail
    go_ret
    exact ⟨_, _, rfl, Ow.nil _ _ _ _, Below.refl _ _⟩
  · have H := Lib.hid hl; clear hl
    have hf := h.lies
    go_enter Tryd.func40, Tryd.ntmps40
    go_wp2_with (at_builtin; refine wpList_app E26 rfl rfl rfl (World.ownsRow_made w #[] 0 (Nat.le_refl _) (by simp) rfl) rfl (hf.alloc _) (by rw [H.out, Nat.mul_one]) (fun u hu => iv_one l u hu) (by unfold maxLen; omega) (by omega) (by simp) ?_; intro A' c' w' hO hG hB)
    go_ret
    refine ⟨A', c', ?_, ?_, ?_⟩
    · simp
    · simpa using hO
    · exact ((Below.refl _ w).alloc (Nat.le_refl _) _).trans hB
set_option maxHeartbeats 8000000 in
theorem arity_ok (op : Int) (w : World) :
    Calls Tryd.prog 42 #[.int .i64 op] w fun e w' => e = .returned (.int .i64 (arF op)) ∧ Below w.heap.size w w' := by
  by_cases h1 : op < 1
  · have t1 : decide (op < 1) = true := decide_eq_true h1
    have HD : Hid (arF op = -2) := Lib.hid (by unfold arF; repeat (first | (rw [if_neg (by omega)]) | rfl))
    clear h1
    go_enter Tryd.func42, Tryd.ntmps42
    go_wp2_with fail
    go_ret
    exact ⟨by rw [HD.out]; rfl, (Below.refl _ w).alloc (Nat.le_refl _) _⟩
  have t1 : decide (op < 1) = false := decide_eq_false h1
  by_cases h2 : 13 ≤ op
  · have t2 : decide (13 ≤ op) = true := decide_eq_true h2
    have HD : Hid (arF op = -2) := Lib.hid (by unfold arF; repeat (first | (rw [if_neg (by omega)]) | rfl))
    clear h1 h2
    go_enter Tryd.func42, Tryd.ntmps42
    go_wp2_with fail
    go_ret
    exact ⟨by rw [HD.out]; rfl, (Below.refl _ w).alloc (Nat.le_refl _) _⟩
  obtain ⟨k, rfl⟩ : ∃ k : Nat, op = (k : Int) := ⟨op.toNat, by omega⟩
  have hk : 1 ≤ k ∧ k < 13 := by omega
  clear h1 t1 h2
  have hk' : k = 1 ∨ k = 2 ∨ k = 3 ∨ k = 4 ∨ k = 5 ∨ k = 6 ∨ k = 7 ∨ k = 8 ∨ k = 9 ∨ k = 10 ∨ k = 11 ∨ k = 12 := by omega
  clear hk
  rcases hk' with rfl | rfl | rfl | rfl | rfl | rfl | rfl | rfl | rfl | rfl | rfl | rfl <;>
  · go_enter Tryd.func42, Tryd.ntmps42
    go_wp2_with fail
    go_ret
    exact ⟨rfl, (Below.refl _ w).alloc (Nat.le_refl _) _⟩
end Go.Proofs.YthbfaledmoobjaaDoor
