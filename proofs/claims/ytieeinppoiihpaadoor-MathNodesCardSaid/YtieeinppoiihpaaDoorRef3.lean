/- The walks of the reference's Width, Root, Size, Leaves. -/
import Derived.Test.YtieeinppoiihpaaDoorRef
import Derived.Test.YtieeinppoiihpaaDoorSidesWalk
namespace Go.Proofs.YtieeinppoiihpaaDoor
open Go.RowKit

theorem rwidth_ok (n : Nat) (w : World) (hn : n ∈ sizes) :
    Calls Tryd.prog 28 #[.int .i64 (n : Int)] w fun e w' => e = .returned (.tuple #[.int .i64 (2 * (n : Int) - 1), .int .i64 0]) ∧ w = w' := by
  have H1 := Lib.hid (fun W => rfull_yes n W hn)
  have hs := size_le hn
  go_enter Tryd.func28, Tryd.ntmps28
  go_wp2_with (go_at_call 64; refine (H1.out _).mono ?_; rintro e w' ⟨rfl, rfl⟩)
  go_ret2
  exact ⟨rfl, rfl⟩
theorem rwidth_no (n : Int) (w : World) (hn : n < 0 ∨ n.toNat ∉ sizes) :
    Calls Tryd.prog 28 #[.int .i64 n] w fun e w' => e = .returned (.tuple #[.int .i64 0, .int .i64 1]) ∧ w = w' := by
  have H1 := Lib.hid (fun W => rfull_no n W hn)
  clear hn
  go_enter Tryd.func28, Tryd.ntmps28
  go_wp2_with (go_at_call 64; refine (H1.out _).mono ?_; rintro e w' ⟨rfl, rfl⟩)
  go_ret2
  exact ⟨rfl, rfl⟩
theorem rroot_ok (n : Nat) (w : World) (hn : n ∈ sizes) :
    Calls Tryd.prog 29 #[.int .i64 (n : Int)] w fun e w' => e = .returned (.tuple #[.int .i64 ((n : Int) - 1), .int .i64 0]) ∧ w = w' := by
  have H1 := Lib.hid (fun W => rfull_yes n W hn)
  have hs := size_le hn
  go_enter Tryd.func29, Tryd.ntmps29
  go_wp2_with (go_at_call 64; refine (H1.out _).mono ?_; rintro e w' ⟨rfl, rfl⟩)
  go_ret2
  exact ⟨rfl, rfl⟩
theorem rroot_no (n : Int) (w : World) (hn : n < 0 ∨ n.toNat ∉ sizes) :
    Calls Tryd.prog 29 #[.int .i64 n] w fun e w' => e = .returned (.tuple #[.int .i64 0, .int .i64 1]) ∧ w = w' := by
  have H1 := Lib.hid (fun W => rfull_no n W hn)
  clear hn
  go_enter Tryd.func29, Tryd.ntmps29
  go_wp2_with (go_at_call 64; refine (H1.out _).mono ?_; rintro e w' ⟨rfl, rfl⟩)
  go_ret2
  exact ⟨rfl, rfl⟩
theorem size_least {n : Nat} (h1 : 1 ≤ n) (h2 : n ≤ 256) : ∃ J, J ≤ 8 ∧ sizeN n = 2 ^ J ∧ n ≤ 2 ^ J ∧ ∀ j, j < J → 2 ^ j < n := by
  have : (List.range 256).all (fun k => decide (Lib.bitLen k ≤ 8) && decide (k + 1 ≤ 2 ^ Lib.bitLen k) && (List.range 9).all fun j => decide (Lib.bitLen k ≤ j) || decide (2 ^ j < k + 1)) = true := by kernel_rfl
  have := List.all_eq_true.1 this (n - 1) (List.mem_range.2 (by omega))
  rw [Nat.sub_add_cancel h1] at this
  simp only [Bool.and_eq_true, decide_eq_true_eq] at this
  refine ⟨_, this.1.1, rfl, this.1.2, fun j hj => ?_⟩
  have := List.all_eq_true.1 this.2 j (List.mem_range.2 (by omega))
  simp only [Bool.or_eq_true, decide_eq_true_eq] at this
  exact this.resolve_left (by omega)
theorem rsize_ok (n : Nat) (w : World) (h1 : 1 ≤ n) (h2 : n ≤ 256) :
    Calls Tryd.prog 34 #[.int .i64 (n : Int)] w fun e w' => e = .returned (.tuple #[.int .i64 (sizeN n : Nat), .int .i64 0]) ∧ w = w' := by
  obtain ⟨J, hJ, hsz, hle, hlt⟩ := size_least h1 h2
  have HZ := Lib.hid hsz
  have HL := Lib.hid hlt
  have t0 : decide ((n : Int) ≤ 0) = false := decide_eq_false (by omega)
  have t1 : decide ((256 : Int) < (n : Int)) = false := decide_eq_false (by omega)
  clear hlt hsz
  go_enter Tryd.func34, Tryd.ntmps34
  go_wp2_with fail
  go_loop [4] (fun v => ∃ j : Nat, j ≤ J ∧ v = .int .i64 ((2 ^ j : Nat) : Int)) (fun v => 1024 - (intOf v).toNat)
  case atStart => exact ⟨0, Nat.zero_le _, rfl⟩
  case round =>
    obtain ⟨j, hj, rfl⟩ := hrel
    by_cases e : j = J
    · subst e
      have t : decide (((2 ^ j : Nat) : Int) < (n : Int)) = false := decide_eq_false (by omega)
      obtain ⟨p, hp⟩ : ∃ p, 2 ^ j = p := ⟨_, rfl⟩
      rw [hp] at t hle ⊢
      have tn : ¬ p < n := by omega
      have tn' : decide (p < n) = false := decide_eq_false tn
      have HP := Lib.hid hp
      clear hp hle
      go_wp2_with fail
      go_ret2
      exact ⟨by rw [HZ.out, HP.out]; rfl, rfl⟩
    · have hl := HL.out j (by omega)
      have h0 : 1 ≤ 2 ^ j := Nat.one_le_two_pow
      have hs : 2 ^ (j + 1) = 2 ^ j * 2 := Nat.pow_succ ..
      have t : decide (((2 ^ j : Nat) : Int) < (n : Int)) = true := decide_eq_true (by omega)
      obtain ⟨p, hp⟩ : ∃ p, 2 ^ j = p := ⟨_, rfl⟩
      rw [hp] at t hl h0 hs ⊢
      have HS := Lib.hid hs
      clear hp hs hle
      go_wp2_with fail
      go_round
      case rel => exact ⟨j + 1, by omega, by rw [HS.out]; go_num⟩
      case measure => simp [intOf]; omega
theorem rsize_no (n : Int) (w : World) (h : n < 1 ∨ 256 < n) :
    Calls Tryd.prog 34 #[.int .i64 n] w fun e w' => e = .returned (.tuple #[.int .i64 0, .int .i64 1]) ∧ w = w' := by
  rcases h with h | h
  · have t1 : decide (n ≤ 0) = true := decide_eq_true (by omega)
    go_enter Tryd.func34, Tryd.ntmps34
    go_wp2_with fail
    go_ret2
    exact ⟨rfl, rfl⟩
  · have t1 : decide (n ≤ 0) = false := decide_eq_false (by omega)
    have t2 : decide (256 < n) = true := decide_eq_true (by omega)
    go_enter Tryd.func34, Tryd.ntmps34
    go_wp2_with fail
    go_ret2
    exact ⟨rfl, rfl⟩
theorem rleaves_ok (x : Nat) (w : World) (hx : x < 511) :
    Calls Tryd.prog 35 #[.int .i64 (x : Int)] w fun e w' => e = .returned (.tuple #[.int .i64 (loN x : Nat), .int .i64 (hiN x : Nat), .int .i64 0]) ∧ w = w' := by
  have hl := lev_le hx
  have H1 := Lib.hid (fun W => rlev_ok x W hx)
  have H2 := fun W => rhalf (lev x + 1) W (by omega) (by omega)
  rw [Nat.add_sub_cancel] at H2
  rw [show ((lev x + 1 : Nat) : Int) = (lev x : Int) + 1 by omega] at H2
  have f := nodes_all (p := fun x => decide (2 ^ lev x ≤ x + 1) && decide (1 ≤ 2 ^ lev x) && decide (2 ^ lev x ≤ 256) && ((x : Int) - (2 * ((2 ^ lev x : Nat) : Int) - 1) / 2) / 2 == (loN x : Nat) && ((x : Int) + (2 * ((2 ^ lev x : Nat) : Int) - 1) / 2) / 2 + 1 == (hiN x : Nat)) (by kernel_rfl) hx
  simp only [Bool.and_eq_true, beq_iff_eq, decide_eq_true_eq] at f
  obtain ⟨⟨⟨⟨f2, f3⟩, f0⟩, f4⟩, f5⟩ := f
  obtain ⟨q, hq⟩ : ∃ q, 2 ^ lev x = q := ⟨_, rfl⟩
  rw [hq] at f0 f2 f3 f4 f5 H2
  obtain ⟨k, hk⟩ : ∃ k, lev x = k := ⟨_, rfl⟩
  rw [hk] at H1 H2 hl
  have HH := Lib.hid H2
  have F4 := Lib.hid f4; have F5 := Lib.hid f5
  clear f4 f5 hq hk H2
  go_enter Tryd.func35, Tryd.ntmps35
  go_wp2_with (first
    | (go_at_call 30; refine (H1.out _).mono ?_; rintro e w' ⟨rfl, rfl⟩)
    | (go_at_call 65; refine (HH.out _).mono ?_; rintro e w' ⟨rfl, rfl⟩))
  go_ret3
  exact ⟨by rw [← F4.out, ← F5.out]; rfl, rfl⟩
theorem rleaves_no (x : Int) (w : World) (hx : x < 0 ∨ 510 < x) :
    Calls Tryd.prog 35 #[.int .i64 x] w fun e w' => e = .returned (.tuple #[.int .i64 0, .int .i64 0, .int .i64 1]) ∧ w = w' := by
  have H1 := Lib.hid (fun W => rlev_no x W hx)
  clear hx
  go_enter Tryd.func35, Tryd.ntmps35
  go_wp2_with (go_at_call 30; refine (H1.out _).mono ?_; rintro e w' ⟨rfl, rfl⟩)
  go_ret3
  exact ⟨rfl, rfl⟩
end Go.Proofs.YtieeinppoiihpaaDoor
