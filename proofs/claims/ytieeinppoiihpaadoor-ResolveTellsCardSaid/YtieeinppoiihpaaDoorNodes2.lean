/- The walks of math's functions that go by 'when' and a closure: Parent, Sibling, Level, Left, Right, Root, Width, Leaves. -/
import Derived.Test.YtieeinppoiihpaaDoorNodes
import Derived.BigQuiet
namespace Go.Proofs.YtieeinppoiihpaaDoor
open Go.RowKit

theorem up_bits {x : Nat} (h : x < 511) : bits .andNot .i64 (bits .or .i64 (x : Int) (wrap64 (2 ^ lev x))) (wrap64 (2 ^ (lev x + 1))) = (upN x : Nat) := by
  have := nodes_all (p := fun x => bits .andNot .i64 (bits .or .i64 (x : Int) (wrap64 (2 ^ lev x))) (wrap64 (2 ^ (lev x + 1))) == (upN x : Nat)) (by kernel_rfl) h
  simpa using this
theorem up_ok (x : Nat) (w : World) (hx : x < 511) (hT : Tab w) :
    Calls Tryd.prog 50 #[.int .i64 (x : Int)] w fun e w' => e = .returned (.int .i64 (upN x : Nat)) ∧ Below w.heap.size w w' := by
  have HC := Lib.hid (fun W hW => level_ok x W hx hW)
  have HU := Lib.hid (up_bits hx)
  have hl := lev_le hx
  obtain ⟨k, hk⟩ : ∃ k, lev x = k := ⟨_, rfl⟩
  rw [hk] at HC hl HU
  go_enter Tryd.func50, Tryd.ntmps50
  go_wp2_with (go_at_call 53; refine (HC.out _ hT).mono ?_; rintro e w' ⟨rfl, rfl⟩)
  go_region
  go_wp2_with fail
  go_ret
  exact ⟨by rw [← HU.out]; rfl, (Below.refl _ _).drew⟩
theorem Tab.alloc {w : World} (h : Tab w) (o : Obj) : Tab (w.alloc o) := fun j hj => (World.cell?_alloc_lt w o ⟨1, j, none⟩ h.lt).trans (h j hj)
theorem Tab.drew {w : World} (h : Tab w) : Tab w.drew := h
theorem Tab.drewN {w : World} (h : Tab w) (k : Nat) : Tab (w.drewN k) := h
/-- behind a box, and a call -/
theorem bx {w w' : World} (o : Obj) (h : Below (w.alloc o).heap.size (w.alloc o) w') : Below w.heap.size w w' :=
  ((Below.refl _ w).alloc (Nat.le_refl _) _).trans (h.mono (by simp))
theorem bx0 {w : World} (o : Obj) : Below w.heap.size w (w.alloc o) := (Below.refl _ w).alloc (Nat.le_refl _) _
theorem up_lt {x : Nat} (h : x < 511) : upN x ≤ 1023 ∧ (x < 510 → True) := by
  have := nodes_all (p := fun x => decide (upN x ≤ 1023)) (by kernel_rfl) h
  exact ⟨by simpa using this, fun _ => trivial⟩

theorem parent_ok (x n : Nat) (w : World) (h : Ins x n) (hne : x + 1 ≠ n) (hT : Tab w) :
    Calls Tryd.prog 14 #[.int .i64 (x : Int), .int .i64 (n : Int)] w fun e w' => e = .returned (.tuple #[.int .i64 (upN x : Nat), .int .i64 0]) ∧ Below w.heap.size w w' := by
  have H1 := Lib.hid (fun W => inside_yes x n W h)
  have H2 := Lib.hid (fun W hW => up_ok x W h.lt hW)
  have hs := size_le h.1; have h2 := h.2
  have t : ((x : Int) != (n : Int) - 1) = true := by rw [bne_iff_ne]; omega
  go_enter Tryd.func14, Tryd.ntmps14
  go_wp2_with (first
    | (go_at_call 49; refine (H1.out _).mono ?_; rintro e w' ⟨rfl, rfl⟩)
    | (go_at_call 50; refine (H2.out _ (hT.alloc _)).mono ?_; rintro e w' ⟨rfl, hB⟩)
    | go_in)
  go_ret2
  exact ⟨by first | rfl | (rw [← HS.out]; rfl), bx _ hB⟩
theorem parent_no (x n : Int) (w : World) (h : ¬ InsI x n ∨ (InsI x n ∧ x = n - 1)) :
    Calls Tryd.prog 14 #[.int .i64 x, .int .i64 n] w fun e w' => e = .returned (.tuple #[.int .i64 0, .int .i64 1]) ∧ Below w.heap.size w w' := by
  rcases h with h | ⟨h, e⟩
  · have H1 := Lib.hid (fun W => inside_no x n W h)
    clear h
    go_enter Tryd.func14, Tryd.ntmps14
    go_wp2_with (first
      | (go_at_call 49; refine (H1.out _).mono ?_; rintro e w' ⟨rfl, rfl⟩)
      | go_in)
    go_ret2
    exact ⟨rfl, bx0 _⟩
  · obtain ⟨h0, h1, h2⟩ := h
    obtain ⟨a, rfl⟩ : ∃ a : Nat, x = a := ⟨x.toNat, by omega⟩
    obtain ⟨b, rfl⟩ : ∃ b : Nat, n = b := ⟨n.toNat, by omega⟩
    rw [Int.toNat_natCast, Int.toNat_natCast] at h2
    have H1 := Lib.hid (fun W => inside_yes a b W h2)
    have hs := size_le h2.1
    have t : ((a : Int) != (b : Int) - 1) = false := by rw [e]; simp
    clear h0 h1 h2 e
    go_enter Tryd.func14, Tryd.ntmps14
    go_wp2_with (first
      | (go_at_call 49; refine (H1.out _).mono ?_; rintro e w' ⟨rfl, rfl⟩)
      | go_in)
    go_ret2
    exact ⟨rfl, bx0 _⟩
theorem sibling_ok (x n : Nat) (w : World) (h : Ins x n) (hne : x + 1 ≠ n) (hT : Tab w) :
    Calls Tryd.prog 22 #[.int .i64 (x : Int), .int .i64 (n : Int)] w fun e w' => e = .returned (.tuple #[.int .i64 (sibN x : Nat), .int .i64 0]) ∧ Below w.heap.size w w' := by
  have H1 := Lib.hid (fun W => inside_yes x n W h)
  have H2 := Lib.hid (fun W hW => up_ok x W h.lt hW)
  have hs := size_le h.1; have h2 := h.2
  have t : ((x : Int) != (n : Int) - 1) = true := by rw [bne_iff_ne]; omega
  obtain ⟨_, _, _, hp⟩ := h.up hne
  have hq := (up_lt h.lt).1
  have HS := Lib.hid (show (2 * (upN x : Int) - (x : Int)) = (sibN x : Nat) by unfold sibN; omega)
  obtain ⟨u, hu⟩ : ∃ u, upN x = u := ⟨_, rfl⟩
  rw [hu] at H2 hp hq HS
  go_enter Tryd.func22, Tryd.ntmps22
  go_wp2_with (first
    | (go_at_call 49; refine (H1.out _).mono ?_; rintro e w' ⟨rfl, rfl⟩)
    | (go_at_call 50; refine (H2.out _ (hT.alloc _)).mono ?_; rintro e w' ⟨rfl, hB⟩; have hc : w'.cell? ⟨w.heap.size, 0, none⟩ = some (.int .i64 (x : Int)) := (hB.cell (p := ⟨w.heap.size, 0, none⟩) (by simp)).trans (by simp))
    | go_in)
  go_ret2
  exact ⟨by rw [← HS.out]; rfl, bx _ hB⟩
theorem sibling_no (x n : Int) (w : World) (h : ¬ InsI x n ∨ (InsI x n ∧ x = n - 1)) :
    Calls Tryd.prog 22 #[.int .i64 x, .int .i64 n] w fun e w' => e = .returned (.tuple #[.int .i64 0, .int .i64 1]) ∧ Below w.heap.size w w' := by
  rcases h with h | ⟨h, e⟩
  · have H1 := Lib.hid (fun W => inside_no x n W h)
    clear h
    go_enter Tryd.func22, Tryd.ntmps22
    go_wp2_with (first
      | (go_at_call 49; refine (H1.out _).mono ?_; rintro e w' ⟨rfl, rfl⟩)
      | go_in)
    go_ret2
    exact ⟨rfl, bx0 _⟩
  · obtain ⟨h0, h1, h2⟩ := h
    obtain ⟨a, rfl⟩ : ∃ a : Nat, x = a := ⟨x.toNat, by omega⟩
    obtain ⟨b, rfl⟩ : ∃ b : Nat, n = b := ⟨n.toNat, by omega⟩
    rw [Int.toNat_natCast, Int.toNat_natCast] at h2
    have H1 := Lib.hid (fun W => inside_yes a b W h2)
    have hs := size_le h2.1
    have t : ((a : Int) != (b : Int) - 1) = false := by rw [e]; simp
    clear h0 h1 h2 e
    go_enter Tryd.func22, Tryd.ntmps22
    go_wp2_with (first
      | (go_at_call 49; refine (H1.out _).mono ?_; rintro e w' ⟨rfl, rfl⟩)
      | go_in)
    go_ret2
    exact ⟨rfl, bx0 _⟩
theorem lvl_ok (x : Nat) (w : World) (hx : x < 511) (hT : Tab w) :
    Calls Tryd.prog 17 #[.int .i64 (x : Int)] w fun e w' => e = .returned (.tuple #[.int .i64 (lev x : Nat), .int .i64 0]) ∧ Below w.heap.size w w' := by
  have H1 := Lib.hid (fun W => any1_yes x W hx)
  have H2 := Lib.hid (fun W hW => level_ok x W hx hW)
  go_enter Tryd.func17, Tryd.ntmps17
  go_wp2_with (first
    | (go_at_call 52; refine (H1.out _).mono ?_; rintro e w' ⟨rfl, rfl⟩)
    | (go_at_call 53; refine (H2.out _ (hT.alloc _)).mono ?_; rintro e w' ⟨rfl, rfl⟩)
    | go_in)
  go_ret2
  exact ⟨rfl, bx0 _⟩
theorem lvl_no (x : Int) (w : World) (hx : x < 0 ∨ 510 < x) :
    Calls Tryd.prog 17 #[.int .i64 x] w fun e w' => e = .returned (.tuple #[.int .i64 0, .int .i64 1]) ∧ Below w.heap.size w w' := by
  have H1 := Lib.hid (fun W => any1_no x W hx)
  clear hx
  go_enter Tryd.func17, Tryd.ntmps17
  go_wp2_with (first
    | (go_at_call 52; refine (H1.out _).mono ?_; rintro e w' ⟨rfl, rfl⟩)
    | go_in)
  go_ret2
  exact ⟨rfl, bx0 _⟩
theorem root_ok (n : Nat) (w : World) (hn : n ∈ sizes) :
    Calls Tryd.prog 20 #[.int .i64 (n : Int)] w fun e w' => e = .returned (.tuple #[.int .i64 ((n : Int) - 1), .int .i64 0]) ∧ Below w.heap.size w w' := by
  have H1 := Lib.hid (fun W => full_yes n W hn)
  have hs := size_le hn
  go_enter Tryd.func20, Tryd.ntmps20
  go_wp2_with (first
    | (go_at_call 59; refine (H1.out _).mono ?_; rintro e w' ⟨rfl, rfl⟩)
    | go_in)
  go_ret2
  exact ⟨rfl, bx0 _⟩
theorem root_no (n : Int) (w : World) (hn : n < 1 ∨ 256 < n ∨ n.toNat ∉ sizes) :
    Calls Tryd.prog 20 #[.int .i64 n] w fun e w' => e = .returned (.tuple #[.int .i64 0, .int .i64 1]) ∧ Below w.heap.size w w' := by
  have H1 := Lib.hid (fun W => full_no n W hn)
  clear hn
  go_enter Tryd.func20, Tryd.ntmps20
  go_wp2_with (first
    | (go_at_call 59; refine (H1.out _).mono ?_; rintro e w' ⟨rfl, rfl⟩)
    | go_in)
  go_ret2
  exact ⟨rfl, bx0 _⟩
theorem width_ok (n : Nat) (w : World) (hn : n ∈ sizes) :
    Calls Tryd.prog 27 #[.int .i64 (n : Int)] w fun e w' => e = .returned (.tuple #[.int .i64 (2 * (n : Int) - 1), .int .i64 0]) ∧ Below w.heap.size w w' := by
  have H1 := Lib.hid (fun W => full_yes n W hn)
  have hs := size_le hn
  go_enter Tryd.func27, Tryd.ntmps27
  go_wp2_with (first
    | (go_at_call 59; refine (H1.out _).mono ?_; rintro e w' ⟨rfl, rfl⟩)
    | go_in)
  go_ret2
  exact ⟨rfl, bx0 _⟩
theorem width_no (n : Int) (w : World) (hn : n < 1 ∨ 256 < n ∨ n.toNat ∉ sizes) :
    Calls Tryd.prog 27 #[.int .i64 n] w fun e w' => e = .returned (.tuple #[.int .i64 0, .int .i64 1]) ∧ Below w.heap.size w w' := by
  have H1 := Lib.hid (fun W => full_no n W hn)
  clear hn
  go_enter Tryd.func27, Tryd.ntmps27
  go_wp2_with (first
    | (go_at_call 59; refine (H1.out _).mono ?_; rintro e w' ⟨rfl, rfl⟩)
    | go_in)
  go_ret2
  exact ⟨rfl, bx0 _⟩
theorem leaves_ok (x : Nat) (w : World) (hx : x < 511) (hT : Tab w) :
    Calls Tryd.prog 13 #[.int .i64 (x : Int)] w fun e w' => e = .returned (.tuple #[.int .i64 (loN x : Nat), .int .i64 (hiN x : Nat), .int .i64 0]) ∧ w = w' := by
  have H1 := Lib.hid (fun W => any1_yes x W hx)
  have H2 := Lib.hid (fun W hW => level_ok x W hx hW)
  have f := nodes_all (p := fun x => wrap64 (2 ^ lev x) == ((2 ^ lev x : Nat) : Int) && decide (2 ^ lev x ≤ x + 1) && decide (1 ≤ 2 ^ lev x) && ((x : Int) - (((2 ^ lev x : Nat) : Int) - 1)) / 2 == (loN x : Nat) && ((x : Int) + (((2 ^ lev x : Nat) : Int) - 1)) / 2 + 1 == (hiN x : Nat)) (by kernel_rfl) hx
  simp only [Bool.and_eq_true, beq_iff_eq, decide_eq_true_eq] at f
  obtain ⟨⟨⟨⟨f1, f2⟩, f3⟩, f4⟩, f5⟩ := f
  have hl := lev_le hx
  obtain ⟨k, hk⟩ : ∃ k, lev x = k := ⟨_, rfl⟩
  rw [hk] at H2 f1 f2 f3 f4 f5 hl
  obtain ⟨q, hq⟩ : ∃ q, 2 ^ k = q := ⟨_, rfl⟩
  have f1' : wrap64 (2 ^ k) = (q : Int) := by rw [← hq]; exact f1
  rw [hq] at f2 f3 f4 f5
  have F4 := Lib.hid f4; have F5 := Lib.hid f5
  clear f1 f4 f5 hq hk
  go_enter Tryd.func13, Tryd.ntmps13
  go_wp2_with (first
    | (go_at_call 52; refine (H1.out _).mono ?_; rintro e w' ⟨rfl, rfl⟩)
    | (go_at_call 53; refine (H2.out _ hT).mono ?_; rintro e w' ⟨rfl, rfl⟩)
    | go_in)
  go_ret3
  exact ⟨by rw [← F4.out, ← F5.out]; rfl, rfl⟩
theorem leaves_no (x : Int) (w : World) (hx : x < 0 ∨ 510 < x) :
    Calls Tryd.prog 13 #[.int .i64 x] w fun e w' => e = .returned (.tuple #[.int .i64 0, .int .i64 0, .int .i64 1]) ∧ w = w' := by
  have H1 := Lib.hid (fun W => any1_no x W hx)
  clear hx
  go_enter Tryd.func13, Tryd.ntmps13
  go_wp2_with (first
    | (go_at_call 52; refine (H1.out _).mono ?_; rintro e w' ⟨rfl, rfl⟩)
    | go_in)
  go_ret3
  exact ⟨rfl, rfl⟩
end Go.Proofs.YtieeinppoiihpaaDoor
