/- The walks of math's small functions: level, up, full, inside, any1. -/
import Derived.Test.YtieeinppoiihpaaDoorLevel
import Derived.Lib.Hide
import Derived.IntWalk
namespace Go.Proofs.YtieeinppoiihpaaDoor
open Go.RowKit

theorem lev_ctz {x : Nat} (h : x < 511) : Lib.ctz 64 (18446744073709551615 - x) = lev x ∧ bits BinOp.xor IntKind.u64 (if IntKind.u64.signed = true then -1 else IntKind.u64.max) (x : Int) = ((18446744073709551615 - x : Nat) : Int) := by
  have := nodes_all (p := fun x => Lib.ctz 64 (18446744073709551615 - x) == lev x && bits BinOp.xor IntKind.u64 (if IntKind.u64.signed = true then -1 else IntKind.u64.max) (x : Int) == ((18446744073709551615 - x : Nat) : Int)) (by kernel_rfl) h
  simp only [Bool.and_eq_true, beq_iff_eq] at this
  exact this
theorem tz (n k : Nat) (w : World) (hn : Hid (n < 18446744073709551616)) (hT : Tab w) (hk : Hid (Lib.ctz 64 n = k)) :
    Calls Tryd.prog 84 #[.int .u64 (n : Int)] w fun e w' => e = .returned (.int .i64 (k : Int)) ∧ w = w' := by
  have hc : ∀ W, Tab W → Calls Tryd.prog 92 #[.int .u64 (n : Int)] W fun e w' => e = .returned (.int .i64 (k : Int)) ∧ W = w' := fun W hW => by
    have := tz64 n hn.out W hW
    rw [hk.out] at this
    exact this.mono fun e w' ⟨a, b⟩ => ⟨a, b.symm⟩
  have HC := Lib.hid hc; clear hc hk hn
  go_enter Tryd.func84, Tryd.ntmps84
  go_wp2_with (go_at_call 92; refine (HC.out _ hT).mono ?_; rintro e w' ⟨rfl, rfl⟩)
  go_ret
  exact ⟨rfl, rfl⟩
theorem level_ok (x : Nat) (w : World) (hx : x < 511) (hT : Tab w) :
    Calls Tryd.prog 53 #[.int .i64 (x : Int)] w fun e w' => e = .returned (.int .i64 (lev x : Nat)) ∧ w = w' := by
  obtain ⟨h1, h2⟩ := lev_ctz hx
  have e1 : IntKind.u64.wrap (x : Int) = (x : Int) := by rw [IntKind.wrap_u64]; omega
  obtain ⟨n, hn⟩ : ∃ n, 18446744073709551615 - x = n := ⟨_, rfl⟩
  rw [hn] at h1 h2
  have hc := fun W hW => tz n (lev x) W (Lib.hid (by omega)) hW (Lib.hid h1)
  have HC := Lib.hid hc; clear hc h1 hn
  go_enter Tryd.func53, Tryd.ntmps53
  go_wp2_with (go_at_call 84; fail)
  clear h2 e1
  refine (HC.out _ hT).mono ?_; rintro e w' ⟨rfl, rfl⟩
  go_wp2_with fail
  go_ret
  exact ⟨rfl, rfl⟩
def anyB (x : Int) : Bool := decide (0 ≤ x) && decide (x ≤ 510)
theorem any1_yes (x : Nat) (w : World) (hx : x < 511) : Calls Tryd.prog 52 #[.int .i64 (x : Int)] w fun e w' => e = .returned (.bool true) ∧ w = w' := by
  have t : decide ((x : Int) ≤ 510) = true := decide_eq_true (by omega)
  go_enter Tryd.func52, Tryd.ntmps52
  go_wp2
  go_ret
  exact ⟨rfl, rfl⟩
theorem any1_no (x : Int) (w : World) (hx : x < 0 ∨ 510 < x) : Calls Tryd.prog 52 #[.int .i64 x] w fun e w' => e = .returned (.bool false) ∧ w = w' := by
  rcases hx with hx | hx
  · go_enter Tryd.func52, Tryd.ntmps52
    go_wp2
    go_ret
    exact ⟨rfl, rfl⟩
  · have t : decide (x ≤ 510) = false := decide_eq_false (by omega)
    go_enter Tryd.func52, Tryd.ntmps52
    go_wp2
    go_ret
    exact ⟨rfl, rfl⟩
theorem full_yes (n : Nat) (w : World) (hn : n ∈ sizes) : Calls Tryd.prog 59 #[.int .i64 (n : Int)] w fun e w' => e = .returned (.bool true) ∧ w = w' := by
  have h := size_le hn
  have ha : bits .and .i64 (n : Int) ((n : Int) - 1) = 0 := by
    have : sizes.all (fun n => bits .and .i64 (n : Int) ((n : Int) - 1) == 0) = true := by kernel_rfl
    simpa using List.all_eq_true.1 this n hn
  go_enter Tryd.func59, Tryd.ntmps59
  go_wp2
  go_ret
  exact ⟨rfl, rfl⟩
theorem full_no (n : Int) (w : World) (hn : n < 1 ∨ 256 < n ∨ n.toNat ∉ sizes) : Calls Tryd.prog 59 #[.int .i64 n] w fun e w' => e = .returned (.bool false) ∧ w = w' := by
  by_cases h1 : n < 1
  · clear hn
    go_enter Tryd.func59, Tryd.ntmps59
    go_wp2
    go_ret
    exact ⟨rfl, rfl⟩
  · by_cases h2 : 256 < n
    · clear hn
      go_enter Tryd.func59, Tryd.ntmps59
      go_wp2
      go_ret
      exact ⟨rfl, rfl⟩
    · have h3 : n.toNat ∉ sizes := by rcases hn with h | h | h; · omega
                                      · omega
                                      · exact h
      obtain ⟨m, rfl⟩ : ∃ m : Nat, n = m := ⟨n.toNat, by omega⟩
      have ha : (bits .and .i64 (m : Int) ((m : Int) - 1) == 0) = false := by
        have : (List.range 257).all (fun n => n == 0 || sizes.contains n || !(bits .and .i64 (n : Int) ((n : Int) - 1) == 0)) = true := by kernel_rfl
        have := List.all_eq_true.1 this m (List.mem_range.2 (by omega))
        simp only [Bool.or_eq_true, beq_iff_eq, List.contains_iff_mem, Bool.not_eq_true'] at this
        rcases this with (h | h) | h
        · omega
        · exact absurd h h3
        · exact h
      clear hn h3
      go_enter Tryd.func59, Tryd.ntmps59
      go_wp2
      go_ret
      exact ⟨rfl, rfl⟩
theorem inside_yes (x n : Nat) (w : World) (h : Ins x n) : Calls Tryd.prog 49 #[.int .i64 (x : Int), .int .i64 (n : Int)] w fun e w' => e = .returned (.bool true) ∧ w = w' := by
  have hs := size_le h.1; have h2 := h.2
  have t : decide ((x : Int) < 2 * (n : Int) - 1) = true := decide_eq_true (by omega)
  have HC := Lib.hid (fun W => full_yes n W h.1)
  go_enter Tryd.func49, Tryd.ntmps49
  go_wp2_with (go_at_call 59; refine (HC.out _).mono ?_; rintro e w' ⟨rfl, rfl⟩)
  go_ret
  exact ⟨rfl, rfl⟩
/-- a node of a tree, of any two numbers -/
def InsI (x n : Int) : Prop := 0 ≤ x ∧ 0 ≤ n ∧ Ins x.toNat n.toNat
theorem inside_no (x n : Int) (w : World) (h : ¬ InsI x n) : Calls Tryd.prog 49 #[.int .i64 x, .int .i64 n] w fun e w' => e = .returned (.bool false) ∧ w = w' := by
  by_cases hn : n < 1 ∨ 256 < n ∨ n.toNat ∉ sizes
  · have HC := Lib.hid (fun W => full_no n W hn); clear hn h
    go_enter Tryd.func49, Tryd.ntmps49
    go_wp2_with (go_at_call 59; refine (HC.out _).mono ?_; rintro e w' ⟨rfl, rfl⟩)
    go_ret
    exact ⟨rfl, rfl⟩
  · have hs : n.toNat ∈ sizes := Classical.byContradiction fun h => hn (.inr (.inr h))
    have h1 : ¬ n < 1 := fun h => hn (.inl h)
    have h2 : ¬ 256 < n := fun h => hn (.inr (.inl h))
    obtain ⟨m, rfl⟩ : ∃ m : Nat, n = m := ⟨n.toNat, by omega⟩
    have hx : x < 0 ∨ 2 * (m : Int) - 1 ≤ x := by
      by_cases a : 0 ≤ x
      · by_cases b : x.toNat + 1 < 2 * m
        · exact absurd ⟨a, by omega, by simpa using hs, by simpa using b⟩ h
        · omega
      · omega
    rw [Int.toNat_natCast] at hs
    have HC := Lib.hid (fun W => full_yes m W hs); clear hn h hs
    rcases hx with hx | hx
    · go_enter Tryd.func49, Tryd.ntmps49
      go_wp2_with (go_at_call 59; refine (HC.out _).mono ?_; rintro e w' ⟨rfl, rfl⟩)
      go_ret
      exact ⟨rfl, rfl⟩
    · have t : decide (x < 2 * (m : Int) - 1) = false := decide_eq_false (by omega)
      go_enter Tryd.func49, Tryd.ntmps49
      go_wp2_with (go_at_call 59; refine (HC.out _).mono ?_; rintro e w' ⟨rfl, rfl⟩)
      go_ret
      exact ⟨rfl, rfl⟩
end Go.Proofs.YtieeinppoiihpaaDoor
