/- The walks of the reference's full, node, Level, half, Left, Right, Parent, Sibling. -/
import Derived.Test.YtieeinppoiihpaaDoorLive
namespace Go.Proofs.YtieeinppoiihpaaDoor
open Go.RowKit

theorem size_pow {n : Nat} (h : n ∈ sizes) : ∃ m, m ≤ 8 ∧ n = 2 ^ m := by
  have : sizes.all (fun n => (List.range 9).any fun m => n == 2 ^ m) = true := by kernel_rfl
  have := List.all_eq_true.1 this n h
  obtain ⟨m, hm, he⟩ := List.any_eq_true.1 this
  exact ⟨m, by have := List.mem_range.1 hm; omega, by simpa using he⟩
theorem pow_size (m : Nat) (h : m ≤ 8) : 2 ^ m ∈ sizes := by
  have : (List.range 9).all (fun m => sizes.contains (2 ^ m)) = true := by kernel_rfl
  have := List.all_eq_true.1 this m (List.mem_range.2 (by omega))
  simpa using this
theorem pow_le (j m : Nat) (h : j ≤ m) : (2 : Nat) ^ j ≤ 2 ^ m := Nat.pow_le_pow_right (by omega) h
theorem rfull_yes (n : Nat) (w : World) (hn : n ∈ sizes) : Calls Tryd.prog 64 #[.int .i64 (n : Int)] w fun e w' => e = .returned (.bool true) ∧ w = w' := by
  obtain ⟨m, hm, hnm⟩ := size_pow hn
  have HN := Lib.hid hnm
  clear hn hnm
  go_enter Tryd.func64, Tryd.ntmps64
  go_wp2_with fail
  go_loop [3] (fun v => ∃ j : Nat, j ≤ m ∧ v = .int .i64 ((2 ^ j : Nat) : Int)) (fun v => 1024 - (intOf v).toNat)
  case atStart => exact ⟨0, Nat.zero_le _, rfl⟩
  case round =>
    obtain ⟨j, hj, rfl⟩ := hrel
    have h1 := pow_le j 8 (by omega)
    have h0 : 1 ≤ 2 ^ j := Nat.one_le_two_pow
    have hs : 2 ^ (j + 1) = 2 ^ j * 2 := Nat.pow_succ ..
    have hlt : j < m → 2 ^ j < 2 ^ m := fun h => Nat.pow_lt_pow_right (by omega) h
    rw [← HN.out] at hlt
    have he : j = m → 2 ^ j = n := fun h => by rw [h, HN.out]
    obtain ⟨p, hp⟩ : ∃ p, 2 ^ j = p := ⟨_, rfl⟩
    rw [hp] at h1 h0 hs hlt he ⊢
    have HS := Lib.hid hs
    clear hp hs
    have tl : decide ((p : Int) ≤ 256) = true := decide_eq_true (by omega)
    by_cases e : j = m
    · have te : ((p : Int) == (n : Int)) = true := by rw [he e]; simp
      clear hlt he
      go_wp2_with fail
      go_ret
      exact ⟨rfl, rfl⟩
    · have hlt' := hlt (by omega)
      have te : ((p : Int) == (n : Int)) = false := by rw [beq_eq_false_iff_ne]; omega
      clear hlt he
      go_wp2_with fail
      go_round
      case rel => exact ⟨j + 1, by omega, by rw [HS.out]; go_num⟩
      case measure => simp [intOf]; omega
theorem rfull_no (n : Int) (w : World) (hn : n < 0 ∨ n.toNat ∉ sizes) : Calls Tryd.prog 64 #[.int .i64 n] w fun e w' => e = .returned (.bool false) ∧ w = w' := by
  have HN : Hid (∀ m : Nat, m ≤ 8 → ((2 ^ m : Nat) : Int) ≠ n) := fun m hm e => by
    rcases hn with h | h
    · have := Int.natCast_nonneg (2 ^ m); rw [e] at this; omega
    · exact h (by rw [← e, Int.toNat_natCast]; exact pow_size m hm)
  clear hn
  go_enter Tryd.func64, Tryd.ntmps64
  go_wp2_with fail
  go_loop [3] (fun v => ∃ j : Nat, j ≤ 9 ∧ v = .int .i64 ((2 ^ j : Nat) : Int)) (fun v => 1024 - (intOf v).toNat)
  case atStart => exact ⟨0, Nat.zero_le _, rfl⟩
  case round =>
    obtain ⟨j, hj, rfl⟩ := hrel
    by_cases e : j = 9
    · subst e
      go_wp2_with fail
      go_ret
      exact ⟨rfl, rfl⟩
    · have h1 := pow_le j 8 (by omega)
      have h0 : 1 ≤ 2 ^ j := Nat.one_le_two_pow
      have hs : 2 ^ (j + 1) = 2 ^ j * 2 := Nat.pow_succ ..
      have hne := HN.out j (by omega)
      obtain ⟨p, hp⟩ : ∃ p, 2 ^ j = p := ⟨_, rfl⟩
      rw [hp] at h1 h0 hs hne ⊢
      have HS := Lib.hid hs
      clear hp hs
      have tl : decide ((p : Int) ≤ 256) = true := decide_eq_true (by omega)
      have te : ((p : Int) == n) = false := by rw [beq_eq_false_iff_ne]; exact hne
      go_wp2_with fail
      go_round
      case rel => exact ⟨j + 1, by omega, by rw [HS.out]; go_num⟩
      case measure => simp [intOf]; omega
theorem rnode_yes (x n : Nat) (w : World) (h : Ins x n) : Calls Tryd.prog 61 #[.int .i64 (x : Int), .int .i64 (n : Int)] w fun e w' => e = .returned (.bool true) ∧ w = w' := by
  have hs := size_le h.1; have h2 := h.2
  have t : decide ((x : Int) < 2 * (n : Int) - 1) = true := decide_eq_true (by omega)
  have HC := Lib.hid (fun W => rfull_yes n W h.1)
  go_enter Tryd.func61, Tryd.ntmps61
  go_wp2_with (go_at_call 64; refine (HC.out _).mono ?_; rintro e w' ⟨rfl, rfl⟩)
  go_ret
  exact ⟨rfl, rfl⟩
theorem rnode_no (x n : Int) (w : World) (h : ¬ InsI x n) : Calls Tryd.prog 61 #[.int .i64 x, .int .i64 n] w fun e w' => e = .returned (.bool false) ∧ w = w' := by
  by_cases hn : n < 0 ∨ n.toNat ∉ sizes
  · have HC := Lib.hid (fun W => rfull_no n W hn); clear hn h
    go_enter Tryd.func61, Tryd.ntmps61
    go_wp2_with (go_at_call 64; refine (HC.out _).mono ?_; rintro e w' ⟨rfl, rfl⟩)
    go_ret
    exact ⟨rfl, rfl⟩
  · have hs : n.toNat ∈ sizes := Classical.byContradiction fun h => hn (.inr h)
    have h1 : ¬ n < 0 := fun h => hn (.inl h)
    obtain ⟨m, rfl⟩ : ∃ m : Nat, n = m := ⟨n.toNat, by omega⟩
    have hx : x < 0 ∨ 2 * (m : Int) - 1 ≤ x := by
      by_cases a : 0 ≤ x
      · by_cases b : x.toNat + 1 < 2 * m
        · exact absurd ⟨a, by omega, by simpa using hs, by simpa using b⟩ h
        · omega
      · omega
    rw [Int.toNat_natCast] at hs
    have hsz := size_le hs
    have HC := Lib.hid (fun W => rfull_yes m W hs); clear hn h hs
    rcases hx with hx | hx
    · go_enter Tryd.func61, Tryd.ntmps61
      go_wp2_with (go_at_call 64; refine (HC.out _).mono ?_; rintro e w' ⟨rfl, rfl⟩)
      go_ret
      exact ⟨rfl, rfl⟩
    · have t : decide (x < 2 * (m : Int) - 1) = false := decide_eq_false (by omega)
      go_enter Tryd.func61, Tryd.ntmps61
      go_wp2_with (go_at_call 64; refine (HC.out _).mono ?_; rintro e w' ⟨rfl, rfl⟩)
      go_ret
      exact ⟨rfl, rfl⟩
theorem lev_rec {x : Nat} (h : x < 511) : (x % 2 = 1 → lev x = lev (x / 2) + 1) ∧ (x % 2 ≠ 1 → lev x = 0) := by
  have := nodes_all (p := fun x => (x % 2 != 1 || lev x == lev (x / 2) + 1) && (x % 2 == 1 || lev x == 0)) (by kernel_rfl) h
  simp only [Bool.and_eq_true, Bool.or_eq_true, bne_iff_ne, beq_iff_eq] at this
  exact ⟨fun e => this.1.resolve_left (fun h => h e), fun e => this.2.resolve_left e⟩
theorem rlev_ok (x : Nat) (w : World) (hx : x < 511) : Calls Tryd.prog 30 #[.int .i64 (x : Int)] w fun e w' => e = .returned (.tuple #[.int .i64 (lev x : Nat), .int .i64 0]) ∧ w = w' := by
  have t0 : decide ((x : Int) < 0) = false := decide_eq_false (by omega)
  have t1 : decide ((510 : Int) < (x : Int)) = false := decide_eq_false (by omega)
  have h8 := lev_le hx
  go_enter Tryd.func30, Tryd.ntmps30
  go_wp2_with fail
  go_loop [0, 4] (fun a b => ∃ y k : Nat, y < 511 ∧ a = .int .i64 (y : Int) ∧ b = .int .i64 (k : Int) ∧ k + lev y = lev x) (fun a _ => (intOf a).toNat)
  case atStart => exact ⟨x, 0, hx, rfl, rfl, by omega⟩
  case round =>
    obtain ⟨y, k, hy, rfl, rfl, hk⟩ := hrel
    obtain ⟨r1, r2⟩ := lev_rec hy
    by_cases e : y % 2 = 1
    · have hr := r1 e
      have te : ((y : Int) % 2 == 1) = true := by rw [beq_iff_eq]; omega
      have HK : Hid (k + 1 + lev (y / 2) = lev x) := Lib.hid (by omega)
      have hkk : k ≤ 8 := by omega
      clear hk r1 r2 hr
      go_wp2_with fail
      go_round
      case rel => exact ⟨y / 2, k + 1, by omega, by go_num, by go_num, HK.out⟩
      case measure => simp [intOf]; omega
    · have hr := r2 e
      have te : ((y : Int) % 2 == 1) = false := by rw [beq_eq_false_iff_ne]; omega
      have HK : Hid (lev x = k) := Lib.hid (by omega)
      clear hk r1 r2 hr
      go_wp2_with fail
      go_ret2
      exact ⟨by rw [HK.out]; rfl, rfl⟩
theorem rlev_no (x : Int) (w : World) (hx : x < 0 ∨ 510 < x) : Calls Tryd.prog 30 #[.int .i64 x] w fun e w' => e = .returned (.tuple #[.int .i64 0, .int .i64 1]) ∧ w = w' := by
  rcases hx with hx | hx
  · have t0 : decide (x < 0) = true := decide_eq_true hx
    go_enter Tryd.func30, Tryd.ntmps30
    go_wp2_with fail
    go_ret2
    exact ⟨rfl, rfl⟩
  · have t0 : decide (x < 0) = false := decide_eq_false (by omega)
    have t1 : decide (510 < x) = true := decide_eq_true hx
    go_enter Tryd.func30, Tryd.ntmps30
    go_wp2_with fail
    go_ret2
    exact ⟨rfl, rfl⟩
theorem rhalf (k : Nat) (w : World) (h1 : 1 ≤ k) (h2 : k ≤ 10) : Calls Tryd.prog 65 #[.int .i64 (k : Int)] w fun e w' => e = .returned (.int .i64 ((2 ^ (k - 1) : Nat) : Int)) ∧ w = w' := by
  obtain ⟨m, hm⟩ : ∃ m, k - 1 = m := ⟨_, rfl⟩
  rw [hm]
  have e0 : (k : Int) - 1 = (m : Int) := by omega
  have hm9 : m ≤ 9 := by omega
  clear hm
  go_enter Tryd.func65, Tryd.ntmps65
  go_wp2_with fail
  go_loop [3, 6] (fun a i => ∃ j : Nat, j ≤ m ∧ i = .int .i64 (j : Int) ∧ a = .int .i64 ((2 ^ j : Nat) : Int)) (fun _ i => m - (intOf i).toNat)
  case atStart => exact ⟨0, Nat.zero_le _, rfl, rfl⟩
  case round =>
    obtain ⟨j, hj, rfl, rfl⟩ := hrel
    by_cases e : j < m
    · have h1 := pow_le j 9 (by omega)
      have hs : 2 ^ (j + 1) = 2 ^ j * 2 := Nat.pow_succ ..
      obtain ⟨p, hp⟩ : ∃ p, 2 ^ j = p := ⟨_, rfl⟩
      rw [hp] at h1 hs ⊢
      have HS := Lib.hid hs
      clear hp hs
      go_wp2_with fail
      go_round
      case rel => exact ⟨j + 1, by omega, by go_num, by rw [HS.out]; go_num⟩
      case measure => simp [intOf]; omega
    · obtain rfl : j = m := by omega
      go_wp2_with fail
      go_ret
      exact ⟨rfl, rfl⟩
theorem rleft_ok (x : Nat) (w : World) (hx : x < 511) (ho : x % 2 = 1) : Calls Tryd.prog 31 #[.int .i64 (x : Int)] w fun e w' => e = .returned (.tuple #[.int .i64 (leftN x : Nat), .int .i64 0]) ∧ w = w' := by
  have hl := (lev_rec hx).1 ho
  have h8 := lev_le hx
  have H1 := Lib.hid (fun W => rlev_ok x W hx)
  have H2 := Lib.hid (fun W => rhalf (lev x) W (by omega) (by omega))
  have f := nodes_all (p := fun x => x % 2 == 0 || decide (2 ^ (lev x - 1) ≤ x)) (by kernel_rfl) hx
  simp only [Bool.or_eq_true, beq_iff_eq, decide_eq_true_eq] at f
  have f' := f.resolve_left (by omega)
  have hv : ((x : Int) - ((2 ^ (lev x - 1) : Nat) : Int)) = (leftN x : Nat) := by unfold leftN; omega
  have hb := pow_le (lev x - 1) 8 (by omega)
  have hk0 : 1 ≤ lev x := by omega
  obtain ⟨h, hh⟩ : ∃ h, 2 ^ (lev x - 1) = h := ⟨_, rfl⟩
  rw [hh] at H2 hv hb f'
  obtain ⟨k, hk⟩ : ∃ k, lev x = k := ⟨_, rfl⟩
  rw [hk] at H1 H2 hk0 h8
  have HV := Lib.hid hv
  have tk : ((k : Int) == 0) = false := by rw [beq_eq_false_iff_ne]; omega
  clear hl f hv hh hk
  go_enter Tryd.func31, Tryd.ntmps31
  go_wp2_with (first
    | (go_at_call 30; refine (H1.out _).mono ?_; rintro e w' ⟨rfl, rfl⟩)
    | (go_at_call 65; refine (H2.out _).mono ?_; rintro e w' ⟨rfl, rfl⟩))
  go_ret2
  exact ⟨by rw [← HV.out]; rfl, rfl⟩
theorem rleft_no (x : Int) (w : World) (hx : x < 0 ∨ 510 < x ∨ (0 ≤ x ∧ x ≤ 510 ∧ x % 2 = 0)) : Calls Tryd.prog 31 #[.int .i64 x] w fun e w' => e = .returned (.tuple #[.int .i64 0, .int .i64 1]) ∧ w = w' := by
  by_cases hy : x < 0 ∨ 510 < x
  · have H1 := Lib.hid (fun W => rlev_no x W hy)
    clear hx hy
    go_enter Tryd.func31, Tryd.ntmps31
    go_wp2_with (go_at_call 30; refine (H1.out _).mono ?_; rintro e w' ⟨rfl, rfl⟩)
    go_ret2
    exact ⟨rfl, rfl⟩
  · obtain ⟨m, rfl⟩ : ∃ m : Nat, x = m := ⟨x.toNat, by omega⟩
    have hm : m < 511 := by omega
    have H1 := Lib.hid (fun W => rlev_ok m W hm)
    rw [(lev_rec hm).2 (by omega)] at H1
    clear hx hy
    go_enter Tryd.func31, Tryd.ntmps31
    go_wp2_with (go_at_call 30; refine (H1.out _).mono ?_; rintro e w' ⟨rfl, rfl⟩)
    go_ret2
    exact ⟨rfl, rfl⟩
theorem rright_ok (x : Nat) (w : World) (hx : x < 511) (ho : x % 2 = 1) : Calls Tryd.prog 32 #[.int .i64 (x : Int)] w fun e w' => e = .returned (.tuple #[.int .i64 (rightN x : Nat), .int .i64 0]) ∧ w = w' := by
  have hl := (lev_rec hx).1 ho
  have h8 := lev_le hx
  have H1 := Lib.hid (fun W => rlev_ok x W hx)
  have H2 := Lib.hid (fun W => rhalf (lev x) W (by omega) (by omega))
  have f := nodes_all (p := fun x => x % 2 == 0 || decide (2 ^ (lev x - 1) ≤ x)) (by kernel_rfl) hx
  simp only [Bool.or_eq_true, beq_iff_eq, decide_eq_true_eq] at f
  have f' := f.resolve_left (by omega)
  have hv : ((x : Int) + ((2 ^ (lev x - 1) : Nat) : Int)) = (rightN x : Nat) := by unfold rightN; omega
  have hb := pow_le (lev x - 1) 8 (by omega)
  have hk0 : 1 ≤ lev x := by omega
  obtain ⟨h, hh⟩ : ∃ h, 2 ^ (lev x - 1) = h := ⟨_, rfl⟩
  rw [hh] at H2 hv hb f'
  obtain ⟨k, hk⟩ : ∃ k, lev x = k := ⟨_, rfl⟩
  rw [hk] at H1 H2 hk0 h8
  have HV := Lib.hid hv
  have tk : ((k : Int) == 0) = false := by rw [beq_eq_false_iff_ne]; omega
  clear hl f hv hh hk
  go_enter Tryd.func32, Tryd.ntmps32
  go_wp2_with (first
    | (go_at_call 30; refine (H1.out _).mono ?_; rintro e w' ⟨rfl, rfl⟩)
    | (go_at_call 65; refine (H2.out _).mono ?_; rintro e w' ⟨rfl, rfl⟩))
  go_ret2
  exact ⟨by rw [← HV.out]; rfl, rfl⟩
theorem rright_no (x : Int) (w : World) (hx : x < 0 ∨ 510 < x ∨ (0 ≤ x ∧ x ≤ 510 ∧ x % 2 = 0)) : Calls Tryd.prog 32 #[.int .i64 x] w fun e w' => e = .returned (.tuple #[.int .i64 0, .int .i64 1]) ∧ w = w' := by
  by_cases hy : x < 0 ∨ 510 < x
  · have H1 := Lib.hid (fun W => rlev_no x W hy)
    clear hx hy
    go_enter Tryd.func32, Tryd.ntmps32
    go_wp2_with (go_at_call 30; refine (H1.out _).mono ?_; rintro e w' ⟨rfl, rfl⟩)
    go_ret2
    exact ⟨rfl, rfl⟩
  · obtain ⟨m, rfl⟩ : ∃ m : Nat, x = m := ⟨x.toNat, by omega⟩
    have hm : m < 511 := by omega
    have H1 := Lib.hid (fun W => rlev_ok m W hm)
    rw [(lev_rec hm).2 (by omega)] at H1
    clear hx hy
    go_enter Tryd.func32, Tryd.ntmps32
    go_wp2_with (go_at_call 30; refine (H1.out _).mono ?_; rintro e w' ⟨rfl, rfl⟩)
    go_ret2
    exact ⟨rfl, rfl⟩
theorem up_odd' {x n : Nat} (h : Ins x n) (hne : x + 1 ≠ n) : upN x % 2 = 1 := by
  have := trees_all (p := fun x n => x + 1 == n || upN x % 2 == 1) (by kernel_rfl) h
  simp only [Bool.or_eq_true, beq_iff_eq] at this
  exact this.resolve_left hne
theorem sib_ne {x n : Nat} (h : Ins x n) (hne : x + 1 ≠ n) : sibN x ≠ x := by
  have := trees_all (p := fun x n => x + 1 == n || sibN x != x) (by kernel_rfl) h
  simp only [Bool.or_eq_true, beq_iff_eq, bne_iff_ne] at this
  exact this.resolve_left hne
end Go.Proofs.YtieeinppoiihpaaDoor
