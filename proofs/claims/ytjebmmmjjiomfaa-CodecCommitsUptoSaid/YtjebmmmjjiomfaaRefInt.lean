/- The walks of the reference's Int and Wide. -/
import Derived.Test.YtjebmmmjjiomfaaTakeB
namespace Go.Proofs.Ytjebmmmjjiomfaa
open Go.RowKit

theorem rint_no (n : Int) (w : World) (h : n < 0 ∨ 1073741823 < n) : Calls Try.prog 24 #[.int .i64 n] w fun e w' => e = .returned (.tuple #[.slice none 0 0, .int .i64 1]) ∧ w = w' := by
  rcases h with h | h
  · go_enter Try.func24, Try.ntmps24
    go_wp2_with fail
    go_ret2
    exact ⟨rfl, rfl⟩
  · have h0 : ¬ n < 0 := by omega
    have t1 : decide (n < 0) = false := decide_eq_false h0
    have t2 : decide (1073741824 ≤ n) = true := decide_eq_true (by omega)
    go_enter Try.func24, Try.ntmps24
    go_wp2_with fail
    go_ret2
    exact ⟨rfl, rfl⟩
theorem rint_ok (n : Nat) (w : World) (h : n < 1073741824) :
    Calls Try.prog 24 #[.int .i64 (n : Int)] w fun e w' => ∃ A c, e = .returned (.tuple #[.slice A (intL n).length c, .int .i64 0]) ∧ Ow w' w.heap.size 5 1 A (intL n).length c (bv (intL n)) ∧ Below w.heap.size w w' := by
  have t0 : decide ((n : Int) < 0) = false := decide_eq_false (by omega)
  have t1 : decide ((1073741824 : Int) ≤ (n : Int)) = false := decide_eq_false (by omega)
  by_cases h1 : n < 64
  · have e : intL n = [UInt8.ofNat n] := by unfold intL; rw [if_pos h1]
    have HV : Hid (bv (intL n) = [.int .u8 (n : Int)]) := Lib.hid (by rw [e]; simp [bv]; omega)
    have HL : Hid ((intL n).length = 1) := Lib.hid (by rw [e]; rfl)
    have t2 : decide ((n : Int) < 64) = true := decide_eq_true (by omega)
    clear e h
    go_enter Try.func24, Try.ntmps24
    go_wp2_with fail
    go_ret2
    rw [HL.out, HV.out]
    exact ⟨_, 1, rfl, World.ownsRow_lit w #[.int .u8 n] 1 (Nat.le_refl _) (by unfold maxLen; omega) rfl, nxa (Below.refl _ _) _⟩
  · have t2 : decide ((n : Int) < 64) = false := decide_eq_false (by omega)
    by_cases h2 : n < 16384
    · have e : intL n = [UInt8.ofNat (64 + n / 256), UInt8.ofNat n] := by unfold intL; rw [if_neg h1, if_pos h2]
      have HV : Hid (bv (intL n) = [.int .u8 (64 + (n : Int) / 256), .int .u8 ((n : Int) % 256)]) := Lib.hid (by
        have a1 : (((64 + n / 256) % 256 : Nat) : Int) = 64 + (n : Int) / 256 := by omega
        have a2 : ((n % 256 : Nat) : Int) = (n : Int) % 256 := by omega
        rw [e]; simp only [bv, List.map_cons, List.map_nil, ofNat_toNat, a1, a2])
      have HL : Hid ((intL n).length = 2) := Lib.hid (by rw [e]; rfl)
      have t3 : decide ((n : Int) < 16384) = true := decide_eq_true (by omega)
      clear e h
      go_enter Try.func24, Try.ntmps24
      go_wp2_with fail
      go_ret2
      rw [HL.out, HV.out]
      exact ⟨_, 2, rfl, World.ownsRow_lit w #[.int .u8 (64 + (n : Int) / 256), .int .u8 ((n : Int) % 256)] 2 (Nat.le_refl _) (by unfold maxLen; omega) rfl, nxa (Below.refl _ _) _⟩
    · have e : intL n = [UInt8.ofNat (128 + n / 16777216), UInt8.ofNat (n / 65536), UInt8.ofNat (n / 256), UInt8.ofNat n] := by unfold intL; rw [if_neg h1, if_neg h2]
      have HV : Hid (bv (intL n) = [.int .u8 (128 + (n : Int) / 16777216), .int .u8 ((n : Int) / 65536 % 256), .int .u8 ((n : Int) / 256 % 256), .int .u8 ((n : Int) % 256)]) := Lib.hid (by
        have a1 : (((128 + n / 16777216) % 256 : Nat) : Int) = 128 + (n : Int) / 16777216 := by omega
        have a2 : ((n / 65536 % 256 : Nat) : Int) = (n : Int) / 65536 % 256 := by omega
        have a3 : ((n / 256 % 256 : Nat) : Int) = (n : Int) / 256 % 256 := by omega
        have a4 : ((n % 256 : Nat) : Int) = (n : Int) % 256 := by omega
        rw [e]; simp only [bv, List.map_cons, List.map_nil, ofNat_toNat, a1, a2, a3, a4])
      have HL : Hid ((intL n).length = 4) := Lib.hid (by rw [e]; rfl)
      have t3 : decide ((n : Int) < 16384) = false := decide_eq_false (by omega)
      clear e
      go_enter Try.func24, Try.ntmps24
      go_wp2_with fail
      go_ret2
      rw [HL.out, HV.out]
      exact ⟨_, 4, rfl, World.ownsRow_lit w #[.int .u8 (128 + (n : Int) / 16777216), .int .u8 ((n : Int) / 65536 % 256), .int .u8 ((n : Int) / 256 % 256), .int .u8 ((n : Int) % 256)] 4 (Nat.le_refl _) (by unfold maxLen; omega) rfl, nxa (Below.refl _ _) _⟩
end Go.Proofs.Ytjebmmmjjiomfaa
