/- The walks of the reference's (chapter Ratchet) leaves, some, Zero, leaf. -/
import Derived.Test.YtieeinppoiihpaaDoorRMine2
namespace Go.Proofs.YtieeinppoiihpaaDoor
open Go.RowKit

theorem sizes_pow {N : Nat} : N ∈ sizes ↔ ∃ k, k ≤ 8 ∧ N = 2 ^ k := by
  constructor
  · intro h
    simp [sizes] at h
    rcases h with rfl | rfl | rfl | rfl | rfl | rfl | rfl | rfl | rfl
    · exact ⟨0, by omega, rfl⟩
    · exact ⟨1, by omega, rfl⟩
    · exact ⟨2, by omega, rfl⟩
    · exact ⟨3, by omega, rfl⟩
    · exact ⟨4, by omega, rfl⟩
    · exact ⟨5, by omega, rfl⟩
    · exact ⟨6, by omega, rfl⟩
    · exact ⟨7, by omega, rfl⟩
    · exact ⟨8, by omega, rfl⟩
  · rintro ⟨k, hk, rfl⟩
    have : (List.range 9).all (fun k => decide (2 ^ k ∈ sizes)) = true := by kernel_rfl
    simpa using List.all_eq_true.1 this k (List.mem_range.2 (by omega))
theorem leaves7_yes (A : Option Addr) (n c N : Nat) (w : World) (hN : N ∈ sizes) (hn : n + 1 = 2 * N) :
    Calls Tryd.prog 68 #[.slice A n c] w fun e w' => e = .returned (.int .i64 (N : Int)) ∧ w = w' := by
  obtain ⟨K, hK, rfl⟩ := sizes_pow.1 hN
  have h8 : 2 ^ K ≤ 2 ^ 8 := Nat.pow_le_pow_right (by omega) hK
  obtain ⟨V, hV⟩ : ∃ V, 2 ^ K = V := ⟨_, rfl⟩
  rw [hV] at hN hn h8 ⊢
  have HV := Lib.hid hV
  clear hN hV
  go_enter Tryd.func68, Tryd.ntmps68
  go_wp2_with fail
  go_loop [3] (fun v => ∃ k u : Nat, k ≤ K ∧ v = .int .i64 (u : Int) ∧ Hid (2 ^ k = u)) (fun v => V - (intOf v).toNat)
  case atStart => exact ⟨0, 1, Nat.zero_le _, rfl, Lib.hid rfl⟩
  case round =>
    obtain ⟨k, v, hk, rfl, HU⟩ := hrel
    have hp : v ≤ V := by rw [← HU.out, ← HV.out]; exact Nat.pow_le_pow_right (by omega) hk
    have h1 : 1 ≤ v := by rw [← HU.out]; exact Nat.one_le_two_pow
    have t1 : decide ((v : Int) ≤ 256) = true := decide_eq_true (by omega)
    by_cases e : k = K
    · have hvV : v = V := by rw [← HU.out, ← HV.out, e]
      subst hvV
      have t2 : (2 * (v : Int) - 1 == (n : Int)) = true := by rw [beq_iff_eq]; omega
      go_wp2_with fail
      go_ret
      exact ⟨rfl, rfl⟩
    · have hvV : 2 * v ≤ V := by
        have := Nat.pow_le_pow_right (n := 2) (by omega) (show k + 1 ≤ K by omega)
        rw [Nat.pow_succ, HU.out, HV.out] at this; omega
      have HS : Hid (2 ^ (k + 1) = 2 * v) := Lib.hid (by rw [Nat.pow_succ, HU.out]; omega)
      have t2 : (2 * (v : Int) - 1 == (n : Int)) = false := by rw [beq_eq_false_iff_ne]; omega
      go_wp2_with fail
      go_round
      case rel => exact ⟨k + 1, 2 * v, by omega, by go_num, HS⟩
      case measure => simp [intOf]; omega
theorem leaves7_no (A : Option Addr) (n c : Nat) (w : World) (h : ∀ N ∈ sizes, n + 1 ≠ 2 * N) :
    Calls Tryd.prog 68 #[.slice A n c] w fun e w' => e = .returned (.int .i64 0) ∧ w = w' := by
  have H := Lib.hid h
  clear h
  go_enter Tryd.func68, Tryd.ntmps68
  go_wp2_with fail
  go_loop [3] (fun v => ∃ k u : Nat, k ≤ 9 ∧ v = .int .i64 (u : Int) ∧ Hid (2 ^ k = u)) (fun v => 512 - (intOf v).toNat)
  case atStart => exact ⟨0, 1, Nat.zero_le _, rfl, Lib.hid rfl⟩
  case round =>
    obtain ⟨k, v, hk, rfl, HU⟩ := hrel
    have h1 : 1 ≤ v := by rw [← HU.out]; exact Nat.one_le_two_pow
    have hp : v ≤ 512 := by rw [← HU.out]; exact Nat.pow_le_pow_right (n := 2) (by omega) hk
    by_cases e : k = 9
    · have hv : v = 512 := by rw [← HU.out, e]
      have t1 : decide ((v : Int) ≤ 256) = false := decide_eq_false (by omega)
      clear hv e
      go_wp2_with fail
      go_ret
      exact ⟨rfl, rfl⟩
    · have h8 : v ≤ 256 := by rw [← HU.out]; exact Nat.pow_le_pow_right (n := 2) (by omega) (show k ≤ 8 by omega)
      have hne := H.out v (sizes_pow.2 ⟨k, by omega, HU.out.symm⟩)
      have HS : Hid (2 ^ (k + 1) = 2 * v) := Lib.hid (by rw [Nat.pow_succ, HU.out]; omega)
      have t1 : decide ((v : Int) ≤ 256) = true := decide_eq_true (by omega)
      have t2 : (2 * (v : Int) - 1 == (n : Int)) = false := by rw [beq_eq_false_iff_ne]; omega
      clear hne
      go_wp2_with fail
      go_round
      case rel => exact ⟨k + 1, 2 * v, by omega, by go_num, HS⟩
      case measure => simp [intOf]; omega
/-- a leaf of some is there -/
def SomeT (t : List TN) (p q : Nat) : Prop := ∃ i : Nat, p ≤ i ∧ i < q ∧ kd t (2 * i) = 1
theorem some7_ok (A : Option Addr) (n c : Nat) (t : List TN) (p q : Nat) (w : World) (h : Ts w A n c t) (hn : n ≤ 1000) (hq : 2 * q ≤ n + 1) (hpq : p ≤ q) :
    Calls Tryd.prog 69 #[.slice A n c, .int .i64 (p : Int), .int .i64 (q : Int)] w fun e w' => BoolIs e (SomeT t p q) ∧ w = w' := by
  go_enter Tryd.func69, Tryd.ntmps69
  go_wp2_with fail
  go_loop [7] (fun v => ∃ k : Nat, p ≤ k ∧ k ≤ q ∧ v = .int .i64 (k : Int) ∧ Hid (∀ i : Nat, p ≤ i → i < k → kd t (2 * i) ≠ 1)) (fun v => q - (intOf v).toNat)
  case atStart => exact ⟨p, Nat.le_refl _, hpq, rfl, Lib.hid (fun i h1 h2 => by omega)⟩
  case round =>
    obtain ⟨k, hk1, hk, rfl, ha⟩ := hrel
    by_cases hlt : k < q
    · obtain ⟨ad, s, U, m, d, rfl, hks, hat⟩ := h.at_ (show 2 * k < n by omega)
      have c0 := hat.c0
      have HK := Lib.hid (kd_at hks)
      have i1 : 2 * (k : Int) < (n : Int) := by omega
      have i2 : (0 : Int) ≤ 2 * (k : Int) := by omega
      have e1 : 2 * (k : Int) = ((2 * k : Nat) : Int) := by omega
      obtain ⟨j, hj⟩ : ∃ j, 2 * k = j := ⟨_, rfl⟩
      rw [hj] at c0 e1
      rw [e1] at i1 i2
      have HJ := Lib.hid hj
      clear hks hat hj
      by_cases hk1' : s.k = 1
      · have t1 : (s.k == 1) = true := by rw [beq_iff_eq]; exact hk1'
        have HD : Hid (SomeT t p q) := Lib.hid ⟨k, hk1, hlt, by rw [HK.out]; exact hk1'⟩
        clear hk1' ha
        go_wp2_with fail
        go_ret
        exact ⟨⟨true, rfl, ⟨fun _ => HD.out, fun _ => rfl⟩⟩, rfl⟩
      · have t1 : (s.k == 1) = false := by rw [beq_eq_false_iff_ne]; exact hk1'
        have HA2 : Hid (∀ i : Nat, p ≤ i → i < k + 1 → kd t (2 * i) ≠ 1) := Lib.hid (fun i h1 h2 => by
          by_cases e : i = k
          · subst e; rw [HK.out]; exact hk1'
          · exact ha.out i h1 (by omega))
        clear hk1' ha
        go_wp2_with fail
        go_round
        case rel => exact ⟨k + 1, by omega, by omega, by go_num, HA2⟩
        case measure => simp [intOf]; omega
    · obtain rfl : k = q := by omega
      have HD : Hid (¬ SomeT t p k) := Lib.hid (fun ⟨i, a, b, d⟩ => ha.out i a b d)
      clear ha
      go_wp2_with fail
      go_ret
      exact ⟨⟨false, rfl, ⟨nofun, fun q => absurd q HD.out⟩⟩, rfl⟩
theorem len_zero (n : Nat) : ((n : Int) == 0) = decide (n = 0) := by
  by_cases e : n = 0
  · subst e; rfl
  · rw [decide_eq_false e, beq_eq_false_iff_ne]; omega
theorem leaf7_ok (s : TN) (A : Option Addr) (n c : Nat) (w : World) (h : Sl w A n c (iv s.un)) :
    Calls Tryd.prog 88 #[tv s A n c] w fun e w' => BoolIs e (LeafT s) ∧ Below w.heap.size w w' := by
  have H0 := Lib.hid (un_nil h)
  clear h
  have t2 := len_zero n
  unfold tv
  by_cases hk : s.k = 1
  · have t1 : (s.k == 1) = true := by rw [beq_iff_eq]; exact hk
    obtain ⟨b, hb⟩ : ∃ b, decide (n = 0) = b := ⟨_, rfl⟩
    rw [hb] at t2
    have HD : Hid (b = true ↔ LeafT s) := Lib.hid (by rw [← hb, decide_eq_true_iff]; exact ⟨fun q => ⟨hk, H0.out.2 q⟩, fun q => H0.out.1 q.2⟩)
    clear hk hb
    go_enter Tryd.func88, Tryd.ntmps88
    go_wp2_with fail
    go_ret
    exact ⟨⟨b, rfl, HD.out⟩, (Below.refl _ w).alloc (Nat.le_refl _) _⟩
  · have t1 : (s.k == 1) = false := by rw [beq_eq_false_iff_ne]; exact hk
    have HD : Hid (¬ LeafT s) := Lib.hid (fun q => hk q.1)
    clear hk
    go_enter Tryd.func88, Tryd.ntmps88
    go_wp2_with fail
    go_ret
    exact ⟨⟨false, rfl, ⟨nofun, fun q => absurd q HD.out⟩⟩, (Below.refl _ w).alloc (Nat.le_refl _) _⟩
theorem zero7_ok (s : TN) (A : Option Addr) (n c : Nat) (w : World) (h : Sl w A n c (iv s.un)) :
    Calls Tryd.prog 87 #[tv s A n c] w fun e w' => BoolIs e (ZeroT s) ∧ Below w.heap.size w w' := by
  have H0 := Lib.hid (un_nil h)
  clear h
  have t6 := len_zero n
  unfold tv
  by_cases h1 : s.k = 0
  rotate_left
  · have t1 : (s.k == 0) = false := by rw [beq_eq_false_iff_ne]; exact h1
    have HD : Hid (¬ ZeroT s) := Lib.hid (fun q => h1 q.1)
    clear h1
    go_enter Tryd.func87, Tryd.ntmps87
    go_wp2_with fail
    go_ret
    exact ⟨⟨false, rfl, ⟨nofun, fun q => absurd q HD.out⟩⟩, (Below.refl _ w).alloc (Nat.le_refl _) _⟩
  have t1 : (s.k == 0) = true := by rw [beq_iff_eq]; exact h1
  by_cases h2 : s.id = 0
  rotate_left
  · have t2 : (s.id == 0) = false := by rw [beq_eq_false_iff_ne]; exact h2
    have HD : Hid (¬ ZeroT s) := Lib.hid (fun q => h2 q.2.1)
    clear h1 h2
    go_enter Tryd.func87, Tryd.ntmps87
    go_wp2_with fail
    go_ret
    exact ⟨⟨false, rfl, ⟨nofun, fun q => absurd q HD.out⟩⟩, (Below.refl _ w).alloc (Nat.le_refl _) _⟩
  have t2 : (s.id == 0) = true := by rw [beq_iff_eq]; exact h2
  by_cases h3 : s.enc = 0
  rotate_left
  · have t3 : (s.enc == 0) = false := by rw [beq_eq_false_iff_ne]; exact h3
    have HD : Hid (¬ ZeroT s) := Lib.hid (fun q => h3 q.2.2.1)
    clear h1 h2 h3
    go_enter Tryd.func87, Tryd.ntmps87
    go_wp2_with fail
    go_ret
    exact ⟨⟨false, rfl, ⟨nofun, fun q => absurd q HD.out⟩⟩, (Below.refl _ w).alloc (Nat.le_refl _) _⟩
  have t3 : (s.enc == 0) = true := by rw [beq_iff_eq]; exact h3
  by_cases h4 : s.sig = 0
  rotate_left
  · have t4 : (s.sig == 0) = false := by rw [beq_eq_false_iff_ne]; exact h4
    have HD : Hid (¬ ZeroT s) := Lib.hid (fun q => h4 q.2.2.2.1)
    clear h1 h2 h3 h4
    go_enter Tryd.func87, Tryd.ntmps87
    go_wp2_with fail
    go_ret
    exact ⟨⟨false, rfl, ⟨nofun, fun q => absurd q HD.out⟩⟩, (Below.refl _ w).alloc (Nat.le_refl _) _⟩
  have t4 : (s.sig == 0) = true := by rw [beq_iff_eq]; exact h4
  by_cases h5 : s.hash = 0
  rotate_left
  · have t5 : (s.hash == 0) = false := by rw [beq_eq_false_iff_ne]; exact h5
    have HD : Hid (¬ ZeroT s) := Lib.hid (fun q => h5 q.2.2.2.2.1)
    clear h1 h2 h3 h4 h5
    go_enter Tryd.func87, Tryd.ntmps87
    go_wp2_with fail
    go_ret
    exact ⟨⟨false, rfl, ⟨nofun, fun q => absurd q HD.out⟩⟩, (Below.refl _ w).alloc (Nat.le_refl _) _⟩
  have t5 : (s.hash == 0) = true := by rw [beq_iff_eq]; exact h5
  obtain ⟨b, hb⟩ : ∃ b, decide (n = 0) = b := ⟨_, rfl⟩
  rw [hb] at t6
  have HD : Hid (b = true ↔ ZeroT s) := Lib.hid (by rw [← hb, decide_eq_true_iff]; exact ⟨fun q => ⟨h1, h2, h3, h4, h5, H0.out.2 q⟩, fun q => H0.out.1 q.2.2.2.2.2⟩)
  clear h1 h2 h3 h4 h5 hb
  go_enter Tryd.func87, Tryd.ntmps87
  go_wp2_with fail
  go_ret
  exact ⟨⟨b, rfl, HD.out⟩, (Below.refl _ w).alloc (Nat.le_refl _) _⟩
end Go.Proofs.YtieeinppoiihpaaDoor
