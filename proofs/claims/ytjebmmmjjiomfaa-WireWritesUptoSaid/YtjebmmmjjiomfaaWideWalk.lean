/- The walk of the law WireWide. -/
import Derived.Test.YtjebmmmjjiomfaaLive
namespace Go.Proofs.Ytjebmmmjjiomfaa
open Go.RowKit

theorem ret_bool {a b : Bool} (h : a = b) : Ending.returned (.bool a) = .returned (.bool b) := by rw [h]
theorem wide_len (n k : Nat) : (wideL n k).length = k := by simp [wideL]
theorem takeWide_back (A : Option Addr) (m c n k : Nat) (r : List UInt8) (w : World) (h : Sl w A m c (bv (wideL n k ++ r))) (h1 : 1 ≤ k) (h8 : k ≤ 8) (hm : k ≤ m) (hlt : Hid (n < 2 ^ (8 * k))) :
    Calls Try.prog 19 #[.slice A m c, .int .i64 (k : Int)] w fun e w' => e = .returned (.tuple #[.int .u64 (n : Int), .int .i64 0]) ∧ w = w' :=
  (takeWide_ok A m c _ k w h h1 h8 hm).mono fun e w' ⟨he, hw⟩ => by
    rw [List.take_append_of_le_length (by rw [wide_len]; omega), List.take_of_length_le (by rw [wide_len]; omega), unL_wideL k n hlt.out] at he
    exact ⟨he, hw⟩
theorem zero_str (l : List UInt8) : (⟨#[0]⟩ : ByteArray) ++ ⟨l.toArray⟩ = ⟨(0 :: l).toArray⟩ := by
  apply ByteArray.ext
  rw [ByteArray.data_append]
  simp

theorem wide_ok1 (n k : Nat) (w : World) (hn : Hid (n < 18446744073709551616)) (h1 : 1 ≤ k) (h8 : k < 8) (hlt : Hid (n < 2 ^ (8 * k))) :
    Calls Try.prog 18 #[.int .u64 (n : Int), .int .i64 ((k : Int) + 1)] w fun e w' => ∃ A c, e = .returned (.tuple #[.slice A (k + 1) c, .int .i64 0]) ∧ Sl w' A (k + 1) c (bv (0 :: wideL n k)) ∧ Below w.heap.size w w' := by
  have := wide_ok n (k + 1) w hn (by omega) (by omega) (Nat.lt_of_lt_of_le hlt.out (Nat.pow_le_pow_right (n := 2) (by omega) (by omega)))
  rw [wideL_zero n k hlt.out] at this
  exact this.mono fun e w' ⟨A, c, a1, a2, a3⟩ => ⟨A, c, a1, a2.sl, a3⟩

set_option maxRecDepth 100000 in
set_option maxHeartbeats 1000000 in
theorem wideNo (n : Nat) (k : Int) (w : World) (hn : Hid (n < 18446744073709551616)) (h : Hid (k < 1 ∨ 8 < k ∨ Hid (2 ^ (8 * k.toNat) ≤ n))) :
    Calls Try.prog 4 #[.int .u64 (n : Int), .int .i64 k] w fun e w' => e = .returned (.bool true) ∧ Below w.heap.size w w' := by
  go_enter Try.func4, Try.ntmps4
  go_wp2_with (first
    | (go_at_call 15; refine (lead w).mono ?_; rintro e w1 ⟨rfl, hB1⟩)
    | (go_at_call 18; refine (wide_no n k w1 hn h.out).mono ?_; rintro e w' ⟨rfl, rfl⟩))
  go_ret
  exact ⟨rfl, hB1⟩

set_option maxRecDepth 100000 in
set_option maxHeartbeats 1000000 in
theorem wideYes (n k : Nat) (w : World) (hn : Hid (n < 18446744073709551616)) (h1 : 1 ≤ k) (h8 : k ≤ 8) (hlt : Hid (n < 2 ^ (8 * k))) :
    Calls Try.prog 4 #[.int .u64 (n : Int), .int .i64 (k : Int)] w fun e w' => e = .returned (.bool true) ∧ Below w.heap.size w w' := by
  go_enter Try.func4, Try.ntmps4
  go_wp2_with (first
    | (go_at_call 15; refine (lead w).mono ?_; rintro e w1 ⟨rfl, hB1⟩)
    | (go_at_call 18; fail))
  refine (wide_ok n k w1 hn h1 h8 hlt).mono ?_; rintro e w2 ⟨A2, c2, rfl, hO2, hB2⟩
  have p1 : (k == 0) = false := by simp; omega
  have p2 : ((k : Int) == 0) = false := by simp; omega
  have q2 := hO2.sl.cap
  go_wp2_with (first
    | (at_builtin; refine wpList_app0 (o := ⟨some 40, _, _, _, _, _⟩) w2.heap.size E23 rfl rfl rfl rfl hO2.lies (by rw [bv_length, wide_len, Nat.mul_one]) (bv_one _) (by unfold maxLen; omega) (by omega) (Nat.le_refl _) ?_; intro A3 c3 w3 hO3 hG3 hB3)
    | (at_builtin; refine wpList_app (o := ⟨some 42, _, _, _, _, _⟩) (news := bv [9]) E23 rfl rfl rfl (hO3.alloc _) rfl (lies_new w3 _ 5) rfl (bv_one _) (by unfold maxLen; omega) (by omega) (by have := hB3.size; simp; omega) ?_; intro A4 c4 w4 hO4 hG4 hB4; rw [← bv_append] at hO4)
    | (go_at_call 19; fail))
  refine (takeWide_back _ _ _ n k [9] w4 hO4.sl h1 h8 (by omega) hlt).mono ?_
  rintro e w' ⟨rfl, rfl⟩
  have hB := nx (nx hB1 hB2) ((hB3.alloc hB3.size _).trans hB4)
  have hS2 := hO2.sl.below ((hB3.alloc hB3.size _).trans hB4)
  have hpre := hS2.pre (k := k - 1) (by omega)
  have j1 : (0 : Int) ≤ (k : Int) - 1 := by omega
  have j2 : (k : Int) - 1 ≤ (c2 : Int) := by omega
  have j3 : ((k : Int) - 1).toNat = k - 1 := by omega
  by_cases h : k = 8
  · subst h
    go_wp2_with fail
    refine (wide_no n 9 w4 hn (by omega)).mono ?_
    rintro e w' ⟨rfl, rfl⟩
    go_wp2_with (go_at_call 19; fail)
    refine (takeWide_short A2 7 c2 8 w4 (by omega) (by omega) (by omega)).mono ?_
    rintro e w' ⟨rfl, rfl⟩
    go_wp2_with fail
    go_ret
    exact ⟨rfl, hB⟩
  · have g1 : ((k : Int) == 8) = false := by simp; omega
    have g2 : (k == 8) = false := by simp; omega
    go_wp2_with fail
    refine (wide_ok1 n k w4 hn (by omega) (by omega) hlt).mono ?_
    rintro e w5 ⟨A5, c5, rfl, hS5, hB5⟩
    have hS2' := hS2.below hB5
    have q3 := hS5.str (P := Try.prog) Try.underlying23 Try.underlying5 Try.underlying9
    have q4 := hS2'.str (P := Try.prog) Try.underlying23 Try.underlying5 Try.underlying9
    have z := zero_str (wideL n k)
    go_wp2_with (go_at_call 19; fail)
    refine (takeWide_short A2 (k - 1) c2 k w5 (by omega) (by omega) (by omega)).mono ?_
    rintro e w' ⟨rfl, rfl⟩
    go_wp2_with fail
    go_ret
    exact ⟨rfl, nx hB hB5⟩

theorem wideWalk (x y : Int) (w : World) (hx : 0 ≤ x ∧ x ≤ 18446744073709551615) (hy : -9223372036854775808 ≤ y ∧ y ≤ 9223372036854775807) :
    Calls Try.prog 4 #[.int .u64 x, .int .i64 y] w fun e w' => e = .returned (.bool true) ∧ Below w.heap.size w w' := by
  obtain ⟨n, rfl⟩ : ∃ n : Nat, x = n := ⟨x.toNat, by omega⟩
  by_cases h : y < 1 ∨ 8 < y ∨ Hid (2 ^ (8 * y.toNat) ≤ n)
  · exact wideNo n y w (by show _ < _; omega) h
  · simp only [not_or] at h
    obtain ⟨k, rfl⟩ : ∃ k : Nat, y = k := ⟨y.toNat, by omega⟩
    exact wideYes n k w (by show _ < _; omega) (by omega) (by omega) (by
      have := h.2.2
      rw [Int.toNat_natCast] at this
      exact Nat.lt_of_not_le fun a => this a)
end Go.Proofs.Ytjebmmmjjiomfaa
