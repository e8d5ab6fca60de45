/- The walk of the law MathSides. -/
import Derived.Test.YtieeinppoiihpaaDoorLive
import Derived.Test.YtieeinppoiihpaaDoorLen
namespace Go.Proofs.YtieeinppoiihpaaDoor
open Go.RowKit

theorem InsI.nat' {x n : Int} (h : InsI x n) : ∃ a b : Nat, x = a ∧ n = b ∧ Ins a b :=
  ⟨x.toNat, n.toNat, by have := h.1; omega, by have := h.2.1; omega, h.2.2⟩
/-- the size for so many -/
def sizeN (n : Nat) : Nat := 2 ^ Lib.bitLen (n - 1)
theorem size_fact {n : Nat} (h1 : 1 ≤ n) (h2 : n ≤ 256) : sizeN n ∈ sizes ∧ n ≤ sizeN n ∧ (sizeN n = 1 ∨ sizeN n / 2 < n) ∧ wrap64 (2 ^ Lib.bitLen (n - 1)) = (sizeN n : Nat) ∧ Lib.bitLen (n - 1) ≤ 8 := by
  have : (List.range 256).all (fun k => sizes.contains (sizeN (k + 1)) && decide (k + 1 ≤ sizeN (k + 1)) && (sizeN (k + 1) == 1 || decide (sizeN (k + 1) / 2 < k + 1)) && wrap64 (2 ^ Lib.bitLen k) == (sizeN (k + 1) : Nat) && decide (Lib.bitLen k ≤ 8)) = true := by kernel_rfl
  have := List.all_eq_true.1 this (n - 1) (List.mem_range.2 (by omega))
  rw [Nat.sub_add_cancel h1] at this
  simp only [Bool.and_eq_true, Bool.or_eq_true, beq_iff_eq, decide_eq_true_eq, List.contains_iff_mem] at this
  exact ⟨this.1.1.1.1, this.1.1.1.2, this.1.1.2, this.1.2, this.2⟩
theorem len_ok (n k : Nat) (w : World) (hn : Hid (n < 18446744073709551616)) (hk : Hid (Lib.bitLen n = k)) :
    Calls Tryd.prog 67 #[.int .u64 (n : Int)] w fun e w' => e = .returned (.int .i64 (k : Int)) ∧ w = w' := by
  have hc : ∀ W, Calls Tryd.prog 86 #[.int .u64 (n : Int)] W fun e w' => e = .returned (.int .i64 (k : Int)) ∧ W = w' := fun W => by
    have := len64 (n : Int) W (by omega) (by have := hn.out; omega)
    rw [Int.toNat_natCast, hk.out] at this
    exact this.mono fun e w' ⟨a, b⟩ => ⟨a, b.symm⟩
  have HC := Lib.hid hc; clear hc hk hn
  go_enter Tryd.func67, Tryd.ntmps67
  go_wp2_with (go_at_call 86; refine (HC.out _).mono ?_; rintro e w' ⟨rfl, rfl⟩)
  go_ret
  exact ⟨rfl, rfl⟩
set_option maxRecDepth 100000 in
theorem size_ok (n : Nat) (w : World) (h1 : 1 ≤ n) (h2 : n ≤ 256) :
    Calls Tryd.prog 33 #[.int .i64 (n : Int)] w fun e w' => e = .returned (.tuple #[.int .i64 (sizeN n : Nat), .int .i64 0]) ∧ Below w.heap.size w w' := by
  obtain ⟨_, _, _, f4, f5⟩ := size_fact h1 h2
  obtain ⟨m, hm⟩ : ∃ m, n - 1 = m := ⟨_, rfl⟩
  rw [hm] at f4 f5
  obtain ⟨k, hk⟩ : ∃ k, Lib.bitLen m = k := ⟨_, rfl⟩
  rw [hk] at f4 f5
  have HC := Lib.hid (fun W => len_ok m k W (Lib.hid (by omega)) (Lib.hid hk))
  have F4 := Lib.hid f4
  have t1 : decide ((0 : Int) < (n : Int)) = true := decide_eq_true (by omega)
  have t2 : decide ((n : Int) ≤ 256) = true := decide_eq_true (by omega)
  have e0 : (n : Int) - 1 = (m : Int) := by omega
  have e1 : IntKind.u64.wrap (m : Int) = (m : Int) := by rw [IntKind.wrap_u64]; omega
  clear f4 hk hm
  go_enter Tryd.func33, Tryd.ntmps33
  go_wp2_with (first
    | (go_at_call 67; fail)
    | (go_at_call 54; go_in)
    | (go_at_call 66; go_in))
  clear e1 t2
  refine (HC.out _).mono ?_; rintro e w' ⟨rfl, rfl⟩
  go_wp2_with fail
  go_ret2
  exact ⟨by rw [← F4.out]; rfl, bx0 _⟩
theorem size_no (n : Int) (w : World) (h : n < 1 ∨ 256 < n) :
    Calls Tryd.prog 33 #[.int .i64 n] w fun e w' => e = .returned (.tuple #[.int .i64 0, .int .i64 1]) ∧ Below w.heap.size w w' := by
  rcases h with h | h
  · have t1 : decide ((0 : Int) < n) = false := decide_eq_false (by omega)
    go_enter Tryd.func33, Tryd.ntmps33
    go_wp2_with go_in
    go_ret2
    exact ⟨rfl, bx0 _⟩
  · have t1 : decide ((0 : Int) < n) = true := decide_eq_true (by omega)
    have t2 : decide (n ≤ 256) = false := decide_eq_false (by omega)
    go_enter Tryd.func33, Tryd.ntmps33
    go_wp2_with go_in
    go_ret2
    exact ⟨rfl, bx0 _⟩

/-- it has a sibling -/
def SYes (x n s u : Int) : Prop := (∀ W, Tab W → Calls Tryd.prog 22 #[.int .i64 x, .int .i64 n] W fun e w' => e = .returned (.tuple #[.int .i64 s, .int .i64 0]) ∧ Below W.heap.size W w') ∧ (∀ W, Tab W → Calls Tryd.prog 22 #[.int .i64 s, .int .i64 n] W fun e w' => e = .returned (.tuple #[.int .i64 x, .int .i64 0]) ∧ Below W.heap.size W w') ∧ (∀ W, Tab W → Calls Tryd.prog 15 #[.int .i64 x, .int .i64 s, .int .i64 n] W fun e w' => e = .returned (.tuple #[.int .i64 u, .int .i64 0]) ∧ Below W.heap.size W w') ∧ (∀ W, Tab W → Calls Tryd.prog 14 #[.int .i64 x, .int .i64 n] W fun e w' => e = .returned (.tuple #[.int .i64 u, .int .i64 0]) ∧ Below W.heap.size W w')
def SNo (x n : Int) : Prop := (∀ W, Tab W → Calls Tryd.prog 22 #[.int .i64 x, .int .i64 n] W fun e w' => e = .returned (.tuple #[.int .i64 0, .int .i64 1]) ∧ Below W.heap.size W w')
/-- it has children -/
def LYes (x l r a b c : Int) : Prop := (∀ W, Tab W → Calls Tryd.prog 18 #[.int .i64 x] W fun e w' => e = .returned (.tuple #[.int .i64 l, .int .i64 0]) ∧ Below W.heap.size W w') ∧ (∀ W, Tab W → Calls Tryd.prog 19 #[.int .i64 x] W fun e w' => e = .returned (.tuple #[.int .i64 r, .int .i64 0]) ∧ Below W.heap.size W w') ∧ (∀ W, Tab W → Calls Tryd.prog 13 #[.int .i64 l] W fun e w' => e = .returned (.tuple #[.int .i64 a, .int .i64 b, .int .i64 0]) ∧ W = w') ∧ (∀ W, Tab W → Calls Tryd.prog 13 #[.int .i64 r] W fun e w' => e = .returned (.tuple #[.int .i64 b, .int .i64 c, .int .i64 0]) ∧ W = w') ∧ (∀ W, Tab W → Calls Tryd.prog 13 #[.int .i64 x] W fun e w' => e = .returned (.tuple #[.int .i64 a, .int .i64 c, .int .i64 0]) ∧ W = w')
def LNo (x : Int) : Prop := (∀ W, Tab W → Calls Tryd.prog 18 #[.int .i64 x] W fun e w' => e = .returned (.tuple #[.int .i64 0, .int .i64 1]) ∧ Below W.heap.size W w') ∧ (∀ W, Tab W → Calls Tryd.prog 19 #[.int .i64 x] W fun e w' => e = .returned (.tuple #[.int .i64 0, .int .i64 1]) ∧ Below W.heap.size W w')
/-- there is a size -/
def ZYes (n z v : Int) : Prop := (∀ W, Tab W → Calls Tryd.prog 33 #[.int .i64 n] W fun e w' => e = .returned (.tuple #[.int .i64 z, .int .i64 0]) ∧ Below W.heap.size W w') ∧ (∀ W, Tab W → Calls Tryd.prog 27 #[.int .i64 z] W fun e w' => e = .returned (.tuple #[.int .i64 v, .int .i64 0]) ∧ Below W.heap.size W w')
def ZNo (n : Int) : Prop := (∀ W, Tab W → Calls Tryd.prog 33 #[.int .i64 n] W fun e w' => e = .returned (.tuple #[.int .i64 0, .int .i64 1]) ∧ Below W.heap.size W w')
set_option maxRecDepth 100000 in
theorem sides_yes_yes_yes1 (x n s u l r a b c z v : Int) (w : World) (HS : Hid (SYes x n s u)) (HL : Hid (LYes x l r a b c)) (hab : 0 ≤ a ∧ a ≤ b ∧ b ≤ c ∧ c ≤ 1000) (hd : b - a = c - b) (HZ : Hid (ZYes n z v)) (hz : n ≤ z) (hz1 : z = 1) (hT : Tab w) :
    Calls Tryd.prog 7 #[.int .i64 x, .int .i64 n] w fun e w' => e = .returned (.bool true) ∧ Below w.heap.size w w' := by
  have tx : (x != x) = false := by simp
  have tu : (u != u) = false := by simp
  have ta : (a != a) = false := by simp
  have tb : (b != b) = false := by simp
  have tc : (c != c) = false := by simp
  have td : ((b - a) != (c - b)) = false := by rw [hd]; simp
  have tz : decide (n ≤ z) = true := decide_eq_true hz
  have tz1 : (z == 1) = true := by rw [hz1]; rfl
  clear hz1
  go_enter Tryd.func7, Tryd.ntmps7
  go_wp2_with fail
  refine (lead w hT).mono ?_; rintro e w1 ⟨rfl, hB1⟩
  have T1 := hT.below' hB1
  replace hB1 := Lib.hid hB1
  go_wp2_with fail
  refine (HS.out.1 _ T1).mono ?_; rintro e w2 ⟨rfl, hC2⟩
  have T2 := T1.below' hC2
  have hB2 := Lib.hid (nx hB1.out hC2); clear hC2 hB1
  go_wp2_with fail
  refine (HS.out.2.1 _ T2).mono ?_; rintro e w3 ⟨rfl, hC3⟩
  have T3 := T2.below' hC3
  have hB3 := Lib.hid (nx hB2.out hC3); clear hC3 hB2
  go_wp2_with fail
  refine (HS.out.2.2.1 _ T3).mono ?_; rintro e w4 ⟨rfl, hC4⟩
  have T4 := T3.below' hC4
  have hB4 := Lib.hid (nx hB3.out hC4); clear hC4 hB3
  go_wp2_with fail
  refine (HS.out.2.2.2 _ T4).mono ?_; rintro e w5 ⟨rfl, hC5⟩
  have T5 := T4.below' hC5
  have hB5 := Lib.hid (nx hB4.out hC5); clear hC5 hB4
  go_wp2_with fail
  refine (HL.out.1 _ T5).mono ?_; rintro e w6 ⟨rfl, hC6⟩
  have T6 := T5.below' hC6
  have hB6 := Lib.hid (nx hB5.out hC6); clear hC6 hB5
  go_wp2_with fail
  refine (HL.out.2.1 _ T6).mono ?_; rintro e w7 ⟨rfl, hC7⟩
  have T7 := T6.below' hC7
  have hB7 := Lib.hid (nx hB6.out hC7); clear hC7 hB6
  go_wp2_with fail
  refine (HL.out.2.2.1 _ T7).mono ?_; rintro e w' ⟨rfl, rfl⟩
  go_wp2_with fail
  refine (HL.out.2.2.2.1 _ T7).mono ?_; rintro e w' ⟨rfl, rfl⟩
  go_wp2_with fail
  refine (HL.out.2.2.2.2 _ T7).mono ?_; rintro e w' ⟨rfl, rfl⟩
  go_wp2_with fail
  refine (HZ.out.1 _ T7).mono ?_; rintro e w8 ⟨rfl, hC8⟩
  have T8 := T7.below' hC8
  have hB8 := Lib.hid (nx hB7.out hC8); clear hC8 hB7
  go_wp2_with fail
  refine (HZ.out.2 _ T8).mono ?_; rintro e w9 ⟨rfl, hC9⟩
  have T9 := T8.below' hC9
  have hB9 := Lib.hid (nx hB8.out hC9); clear hC9 hB8
  go_wp2_with fail
  go_ret
  exact ⟨rfl, hB9.out⟩
set_option maxRecDepth 100000 in
theorem sides_yes_yes_yes2 (x n s u l r a b c z v : Int) (w : World) (HS : Hid (SYes x n s u)) (HL : Hid (LYes x l r a b c)) (hab : 0 ≤ a ∧ a ≤ b ∧ b ≤ c ∧ c ≤ 1000) (hd : b - a = c - b) (HZ : Hid (ZYes n z v)) (hz : n ≤ z) (hz0 : 0 ≤ z ∧ z ≤ 256) (hz1 : z ≠ 1) (hz2 : z / 2 < n) (hT : Tab w) :
    Calls Tryd.prog 7 #[.int .i64 x, .int .i64 n] w fun e w' => e = .returned (.bool true) ∧ Below w.heap.size w w' := by
  have tx : (x != x) = false := by simp
  have tu : (u != u) = false := by simp
  have ta : (a != a) = false := by simp
  have tb : (b != b) = false := by simp
  have tc : (c != c) = false := by simp
  have td : ((b - a) != (c - b)) = false := by rw [hd]; simp
  have tz : decide (n ≤ z) = true := decide_eq_true hz
  have tz1 : (z == 1) = false := by rw [beq_eq_false_iff_ne]; exact hz1
  have tz2 : decide (z / 2 < n) = true := decide_eq_true hz2
  go_enter Tryd.func7, Tryd.ntmps7
  go_wp2_with fail
  refine (lead w hT).mono ?_; rintro e w1 ⟨rfl, hB1⟩
  have T1 := hT.below' hB1
  replace hB1 := Lib.hid hB1
  go_wp2_with fail
  refine (HS.out.1 _ T1).mono ?_; rintro e w2 ⟨rfl, hC2⟩
  have T2 := T1.below' hC2
  have hB2 := Lib.hid (nx hB1.out hC2); clear hC2 hB1
  go_wp2_with fail
  refine (HS.out.2.1 _ T2).mono ?_; rintro e w3 ⟨rfl, hC3⟩
  have T3 := T2.below' hC3
  have hB3 := Lib.hid (nx hB2.out hC3); clear hC3 hB2
  go_wp2_with fail
  refine (HS.out.2.2.1 _ T3).mono ?_; rintro e w4 ⟨rfl, hC4⟩
  have T4 := T3.below' hC4
  have hB4 := Lib.hid (nx hB3.out hC4); clear hC4 hB3
  go_wp2_with fail
  refine (HS.out.2.2.2 _ T4).mono ?_; rintro e w5 ⟨rfl, hC5⟩
  have T5 := T4.below' hC5
  have hB5 := Lib.hid (nx hB4.out hC5); clear hC5 hB4
  go_wp2_with fail
  refine (HL.out.1 _ T5).mono ?_; rintro e w6 ⟨rfl, hC6⟩
  have T6 := T5.below' hC6
  have hB6 := Lib.hid (nx hB5.out hC6); clear hC6 hB5
  go_wp2_with fail
  refine (HL.out.2.1 _ T6).mono ?_; rintro e w7 ⟨rfl, hC7⟩
  have T7 := T6.below' hC7
  have hB7 := Lib.hid (nx hB6.out hC7); clear hC7 hB6
  go_wp2_with fail
  refine (HL.out.2.2.1 _ T7).mono ?_; rintro e w' ⟨rfl, rfl⟩
  go_wp2_with fail
  refine (HL.out.2.2.2.1 _ T7).mono ?_; rintro e w' ⟨rfl, rfl⟩
  go_wp2_with fail
  refine (HL.out.2.2.2.2 _ T7).mono ?_; rintro e w' ⟨rfl, rfl⟩
  go_wp2_with fail
  refine (HZ.out.1 _ T7).mono ?_; rintro e w8 ⟨rfl, hC8⟩
  have T8 := T7.below' hC8
  have hB8 := Lib.hid (nx hB7.out hC8); clear hC8 hB7
  go_wp2_with fail
  refine (HZ.out.2 _ T8).mono ?_; rintro e w9 ⟨rfl, hC9⟩
  have T9 := T8.below' hC9
  have hB9 := Lib.hid (nx hB8.out hC9); clear hC9 hB8
  go_wp2_with fail
  go_ret
  exact ⟨rfl, hB9.out⟩
set_option maxRecDepth 100000 in
theorem sides_yes_yes_no1 (x n s u l r a b c : Int) (w : World) (HS : Hid (SYes x n s u)) (HL : Hid (LYes x l r a b c)) (hab : 0 ≤ a ∧ a ≤ b ∧ b ≤ c ∧ c ≤ 1000) (hd : b - a = c - b) (HZ : Hid (ZNo n)) (hz : n < 1) (hT : Tab w) :
    Calls Tryd.prog 7 #[.int .i64 x, .int .i64 n] w fun e w' => e = .returned (.bool true) ∧ Below w.heap.size w w' := by
  have tx : (x != x) = false := by simp
  have tu : (u != u) = false := by simp
  have ta : (a != a) = false := by simp
  have tb : (b != b) = false := by simp
  have tc : (c != c) = false := by simp
  have td : ((b - a) != (c - b)) = false := by rw [hd]; simp
  have tz : decide (n < 1) = true := decide_eq_true hz
  go_enter Tryd.func7, Tryd.ntmps7
  go_wp2_with fail
  refine (lead w hT).mono ?_; rintro e w1 ⟨rfl, hB1⟩
  have T1 := hT.below' hB1
  replace hB1 := Lib.hid hB1
  go_wp2_with fail
  refine (HS.out.1 _ T1).mono ?_; rintro e w2 ⟨rfl, hC2⟩
  have T2 := T1.below' hC2
  have hB2 := Lib.hid (nx hB1.out hC2); clear hC2 hB1
  go_wp2_with fail
  refine (HS.out.2.1 _ T2).mono ?_; rintro e w3 ⟨rfl, hC3⟩
  have T3 := T2.below' hC3
  have hB3 := Lib.hid (nx hB2.out hC3); clear hC3 hB2
  go_wp2_with fail
  refine (HS.out.2.2.1 _ T3).mono ?_; rintro e w4 ⟨rfl, hC4⟩
  have T4 := T3.below' hC4
  have hB4 := Lib.hid (nx hB3.out hC4); clear hC4 hB3
  go_wp2_with fail
  refine (HS.out.2.2.2 _ T4).mono ?_; rintro e w5 ⟨rfl, hC5⟩
  have T5 := T4.below' hC5
  have hB5 := Lib.hid (nx hB4.out hC5); clear hC5 hB4
  go_wp2_with fail
  refine (HL.out.1 _ T5).mono ?_; rintro e w6 ⟨rfl, hC6⟩
  have T6 := T5.below' hC6
  have hB6 := Lib.hid (nx hB5.out hC6); clear hC6 hB5
  go_wp2_with fail
  refine (HL.out.2.1 _ T6).mono ?_; rintro e w7 ⟨rfl, hC7⟩
  have T7 := T6.below' hC7
  have hB7 := Lib.hid (nx hB6.out hC7); clear hC7 hB6
  go_wp2_with fail
  refine (HL.out.2.2.1 _ T7).mono ?_; rintro e w' ⟨rfl, rfl⟩
  go_wp2_with fail
  refine (HL.out.2.2.2.1 _ T7).mono ?_; rintro e w' ⟨rfl, rfl⟩
  go_wp2_with fail
  refine (HL.out.2.2.2.2 _ T7).mono ?_; rintro e w' ⟨rfl, rfl⟩
  go_wp2_with fail
  refine (HZ.out _ T7).mono ?_; rintro e w8 ⟨rfl, hC8⟩
  have T8 := T7.below' hC8
  have hB8 := Lib.hid (nx hB7.out hC8); clear hC8 hB7
  go_wp2_with fail
  go_ret
  exact ⟨rfl, hB8.out⟩
set_option maxRecDepth 100000 in
theorem sides_yes_yes_no2 (x n s u l r a b c : Int) (w : World) (HS : Hid (SYes x n s u)) (HL : Hid (LYes x l r a b c)) (hab : 0 ≤ a ∧ a ≤ b ∧ b ≤ c ∧ c ≤ 1000) (hd : b - a = c - b) (HZ : Hid (ZNo n)) (hz : 256 < n) (hT : Tab w) :
    Calls Tryd.prog 7 #[.int .i64 x, .int .i64 n] w fun e w' => e = .returned (.bool true) ∧ Below w.heap.size w w' := by
  have tx : (x != x) = false := by simp
  have tu : (u != u) = false := by simp
  have ta : (a != a) = false := by simp
  have tb : (b != b) = false := by simp
  have tc : (c != c) = false := by simp
  have td : ((b - a) != (c - b)) = false := by rw [hd]; simp
  have tz : decide (n < 1) = false := decide_eq_false (by omega)
  have tz2 : decide (256 < n) = true := decide_eq_true hz
  go_enter Tryd.func7, Tryd.ntmps7
  go_wp2_with fail
  refine (lead w hT).mono ?_; rintro e w1 ⟨rfl, hB1⟩
  have T1 := hT.below' hB1
  replace hB1 := Lib.hid hB1
  go_wp2_with fail
  refine (HS.out.1 _ T1).mono ?_; rintro e w2 ⟨rfl, hC2⟩
  have T2 := T1.below' hC2
  have hB2 := Lib.hid (nx hB1.out hC2); clear hC2 hB1
  go_wp2_with fail
  refine (HS.out.2.1 _ T2).mono ?_; rintro e w3 ⟨rfl, hC3⟩
  have T3 := T2.below' hC3
  have hB3 := Lib.hid (nx hB2.out hC3); clear hC3 hB2
  go_wp2_with fail
  refine (HS.out.2.2.1 _ T3).mono ?_; rintro e w4 ⟨rfl, hC4⟩
  have T4 := T3.below' hC4
  have hB4 := Lib.hid (nx hB3.out hC4); clear hC4 hB3
  go_wp2_with fail
  refine (HS.out.2.2.2 _ T4).mono ?_; rintro e w5 ⟨rfl, hC5⟩
  have T5 := T4.below' hC5
  have hB5 := Lib.hid (nx hB4.out hC5); clear hC5 hB4
  go_wp2_with fail
  refine (HL.out.1 _ T5).mono ?_; rintro e w6 ⟨rfl, hC6⟩
  have T6 := T5.below' hC6
  have hB6 := Lib.hid (nx hB5.out hC6); clear hC6 hB5
  go_wp2_with fail
  refine (HL.out.2.1 _ T6).mono ?_; rintro e w7 ⟨rfl, hC7⟩
  have T7 := T6.below' hC7
  have hB7 := Lib.hid (nx hB6.out hC7); clear hC7 hB6
  go_wp2_with fail
  refine (HL.out.2.2.1 _ T7).mono ?_; rintro e w' ⟨rfl, rfl⟩
  go_wp2_with fail
  refine (HL.out.2.2.2.1 _ T7).mono ?_; rintro e w' ⟨rfl, rfl⟩
  go_wp2_with fail
  refine (HL.out.2.2.2.2 _ T7).mono ?_; rintro e w' ⟨rfl, rfl⟩
  go_wp2_with fail
  refine (HZ.out _ T7).mono ?_; rintro e w8 ⟨rfl, hC8⟩
  have T8 := T7.below' hC8
  have hB8 := Lib.hid (nx hB7.out hC8); clear hC8 hB7
  go_wp2_with fail
  go_ret
  exact ⟨rfl, hB8.out⟩
set_option maxRecDepth 100000 in
theorem sides_yes_no_yes1 (x n s u z v : Int) (w : World) (HS : Hid (SYes x n s u)) (HL : Hid (LNo x)) (HZ : Hid (ZYes n z v)) (hz : n ≤ z) (hz1 : z = 1) (hT : Tab w) :
    Calls Tryd.prog 7 #[.int .i64 x, .int .i64 n] w fun e w' => e = .returned (.bool true) ∧ Below w.heap.size w w' := by
  have tx : (x != x) = false := by simp
  have tu : (u != u) = false := by simp
  have tz : decide (n ≤ z) = true := decide_eq_true hz
  have tz1 : (z == 1) = true := by rw [hz1]; rfl
  clear hz1
  go_enter Tryd.func7, Tryd.ntmps7
  go_wp2_with fail
  refine (lead w hT).mono ?_; rintro e w1 ⟨rfl, hB1⟩
  have T1 := hT.below' hB1
  replace hB1 := Lib.hid hB1
  go_wp2_with fail
  refine (HS.out.1 _ T1).mono ?_; rintro e w2 ⟨rfl, hC2⟩
  have T2 := T1.below' hC2
  have hB2 := Lib.hid (nx hB1.out hC2); clear hC2 hB1
  go_wp2_with fail
  refine (HS.out.2.1 _ T2).mono ?_; rintro e w3 ⟨rfl, hC3⟩
  have T3 := T2.below' hC3
  have hB3 := Lib.hid (nx hB2.out hC3); clear hC3 hB2
  go_wp2_with fail
  refine (HS.out.2.2.1 _ T3).mono ?_; rintro e w4 ⟨rfl, hC4⟩
  have T4 := T3.below' hC4
  have hB4 := Lib.hid (nx hB3.out hC4); clear hC4 hB3
  go_wp2_with fail
  refine (HS.out.2.2.2 _ T4).mono ?_; rintro e w5 ⟨rfl, hC5⟩
  have T5 := T4.below' hC5
  have hB5 := Lib.hid (nx hB4.out hC5); clear hC5 hB4
  go_wp2_with fail
  refine (HL.out.1 _ T5).mono ?_; rintro e w6 ⟨rfl, hC6⟩
  have T6 := T5.below' hC6
  have hB6 := Lib.hid (nx hB5.out hC6); clear hC6 hB5
  go_wp2_with fail
  refine (HL.out.2 _ T6).mono ?_; rintro e w7 ⟨rfl, hC7⟩
  have T7 := T6.below' hC7
  have hB7 := Lib.hid (nx hB6.out hC7); clear hC7 hB6
  go_wp2_with fail
  refine (HZ.out.1 _ T7).mono ?_; rintro e w8 ⟨rfl, hC8⟩
  have T8 := T7.below' hC8
  have hB8 := Lib.hid (nx hB7.out hC8); clear hC8 hB7
  go_wp2_with fail
  refine (HZ.out.2 _ T8).mono ?_; rintro e w9 ⟨rfl, hC9⟩
  have T9 := T8.below' hC9
  have hB9 := Lib.hid (nx hB8.out hC9); clear hC9 hB8
  go_wp2_with fail
  go_ret
  exact ⟨rfl, hB9.out⟩
set_option maxRecDepth 100000 in
theorem sides_yes_no_yes2 (x n s u z v : Int) (w : World) (HS : Hid (SYes x n s u)) (HL : Hid (LNo x)) (HZ : Hid (ZYes n z v)) (hz : n ≤ z) (hz0 : 0 ≤ z ∧ z ≤ 256) (hz1 : z ≠ 1) (hz2 : z / 2 < n) (hT : Tab w) :
    Calls Tryd.prog 7 #[.int .i64 x, .int .i64 n] w fun e w' => e = .returned (.bool true) ∧ Below w.heap.size w w' := by
  have tx : (x != x) = false := by simp
  have tu : (u != u) = false := by simp
  have tz : decide (n ≤ z) = true := decide_eq_true hz
  have tz1 : (z == 1) = false := by rw [beq_eq_false_iff_ne]; exact hz1
  have tz2 : decide (z / 2 < n) = true := decide_eq_true hz2
  go_enter Tryd.func7, Tryd.ntmps7
  go_wp2_with fail
  refine (lead w hT).mono ?_; rintro e w1 ⟨rfl, hB1⟩
  have T1 := hT.below' hB1
  replace hB1 := Lib.hid hB1
  go_wp2_with fail
  refine (HS.out.1 _ T1).mono ?_; rintro e w2 ⟨rfl, hC2⟩
  have T2 := T1.below' hC2
  have hB2 := Lib.hid (nx hB1.out hC2); clear hC2 hB1
  go_wp2_with fail
  refine (HS.out.2.1 _ T2).mono ?_; rintro e w3 ⟨rfl, hC3⟩
  have T3 := T2.below' hC3
  have hB3 := Lib.hid (nx hB2.out hC3); clear hC3 hB2
  go_wp2_with fail
  refine (HS.out.2.2.1 _ T3).mono ?_; rintro e w4 ⟨rfl, hC4⟩
  have T4 := T3.below' hC4
  have hB4 := Lib.hid (nx hB3.out hC4); clear hC4 hB3
  go_wp2_with fail
  refine (HS.out.2.2.2 _ T4).mono ?_; rintro e w5 ⟨rfl, hC5⟩
  have T5 := T4.below' hC5
  have hB5 := Lib.hid (nx hB4.out hC5); clear hC5 hB4
  go_wp2_with fail
  refine (HL.out.1 _ T5).mono ?_; rintro e w6 ⟨rfl, hC6⟩
  have T6 := T5.below' hC6
  have hB6 := Lib.hid (nx hB5.out hC6); clear hC6 hB5
  go_wp2_with fail
  refine (HL.out.2 _ T6).mono ?_; rintro e w7 ⟨rfl, hC7⟩
  have T7 := T6.below' hC7
  have hB7 := Lib.hid (nx hB6.out hC7); clear hC7 hB6
  go_wp2_with fail
  refine (HZ.out.1 _ T7).mono ?_; rintro e w8 ⟨rfl, hC8⟩
  have T8 := T7.below' hC8
  have hB8 := Lib.hid (nx hB7.out hC8); clear hC8 hB7
  go_wp2_with fail
  refine (HZ.out.2 _ T8).mono ?_; rintro e w9 ⟨rfl, hC9⟩
  have T9 := T8.below' hC9
  have hB9 := Lib.hid (nx hB8.out hC9); clear hC9 hB8
  go_wp2_with fail
  go_ret
  exact ⟨rfl, hB9.out⟩
set_option maxRecDepth 100000 in
theorem sides_yes_no_no1 (x n s u : Int) (w : World) (HS : Hid (SYes x n s u)) (HL : Hid (LNo x)) (HZ : Hid (ZNo n)) (hz : n < 1) (hT : Tab w) :
    Calls Tryd.prog 7 #[.int .i64 x, .int .i64 n] w fun e w' => e = .returned (.bool true) ∧ Below w.heap.size w w' := by
  have tx : (x != x) = false := by simp
  have tu : (u != u) = false := by simp
  have tz : decide (n < 1) = true := decide_eq_true hz
  go_enter Tryd.func7, Tryd.ntmps7
  go_wp2_with fail
  refine (lead w hT).mono ?_; rintro e w1 ⟨rfl, hB1⟩
  have T1 := hT.below' hB1
  replace hB1 := Lib.hid hB1
  go_wp2_with fail
  refine (HS.out.1 _ T1).mono ?_; rintro e w2 ⟨rfl, hC2⟩
  have T2 := T1.below' hC2
  have hB2 := Lib.hid (nx hB1.out hC2); clear hC2 hB1
  go_wp2_with fail
  refine (HS.out.2.1 _ T2).mono ?_; rintro e w3 ⟨rfl, hC3⟩
  have T3 := T2.below' hC3
  have hB3 := Lib.hid (nx hB2.out hC3); clear hC3 hB2
  go_wp2_with fail
  refine (HS.out.2.2.1 _ T3).mono ?_; rintro e w4 ⟨rfl, hC4⟩
  have T4 := T3.below' hC4
  have hB4 := Lib.hid (nx hB3.out hC4); clear hC4 hB3
  go_wp2_with fail
  refine (HS.out.2.2.2 _ T4).mono ?_; rintro e w5 ⟨rfl, hC5⟩
  have T5 := T4.below' hC5
  have hB5 := Lib.hid (nx hB4.out hC5); clear hC5 hB4
  go_wp2_with fail
  refine (HL.out.1 _ T5).mono ?_; rintro e w6 ⟨rfl, hC6⟩
  have T6 := T5.below' hC6
  have hB6 := Lib.hid (nx hB5.out hC6); clear hC6 hB5
  go_wp2_with fail
  refine (HL.out.2 _ T6).mono ?_; rintro e w7 ⟨rfl, hC7⟩
  have T7 := T6.below' hC7
  have hB7 := Lib.hid (nx hB6.out hC7); clear hC7 hB6
  go_wp2_with fail
  refine (HZ.out _ T7).mono ?_; rintro e w8 ⟨rfl, hC8⟩
  have T8 := T7.below' hC8
  have hB8 := Lib.hid (nx hB7.out hC8); clear hC8 hB7
  go_wp2_with fail
  go_ret
  exact ⟨rfl, hB8.out⟩
set_option maxRecDepth 100000 in
theorem sides_yes_no_no2 (x n s u : Int) (w : World) (HS : Hid (SYes x n s u)) (HL : Hid (LNo x)) (HZ : Hid (ZNo n)) (hz : 256 < n) (hT : Tab w) :
    Calls Tryd.prog 7 #[.int .i64 x, .int .i64 n] w fun e w' => e = .returned (.bool true) ∧ Below w.heap.size w w' := by
  have tx : (x != x) = false := by simp
  have tu : (u != u) = false := by simp
  have tz : decide (n < 1) = false := decide_eq_false (by omega)
  have tz2 : decide (256 < n) = true := decide_eq_true hz
  go_enter Tryd.func7, Tryd.ntmps7
  go_wp2_with fail
  refine (lead w hT).mono ?_; rintro e w1 ⟨rfl, hB1⟩
  have T1 := hT.below' hB1
  replace hB1 := Lib.hid hB1
  go_wp2_with fail
  refine (HS.out.1 _ T1).mono ?_; rintro e w2 ⟨rfl, hC2⟩
  have T2 := T1.below' hC2
  have hB2 := Lib.hid (nx hB1.out hC2); clear hC2 hB1
  go_wp2_with fail
  refine (HS.out.2.1 _ T2).mono ?_; rintro e w3 ⟨rfl, hC3⟩
  have T3 := T2.below' hC3
  have hB3 := Lib.hid (nx hB2.out hC3); clear hC3 hB2
  go_wp2_with fail
  refine (HS.out.2.2.1 _ T3).mono ?_; rintro e w4 ⟨rfl, hC4⟩
  have T4 := T3.below' hC4
  have hB4 := Lib.hid (nx hB3.out hC4); clear hC4 hB3
  go_wp2_with fail
  refine (HS.out.2.2.2 _ T4).mono ?_; rintro e w5 ⟨rfl, hC5⟩
  have T5 := T4.below' hC5
  have hB5 := Lib.hid (nx hB4.out hC5); clear hC5 hB4
  go_wp2_with fail
  refine (HL.out.1 _ T5).mono ?_; rintro e w6 ⟨rfl, hC6⟩
  have T6 := T5.below' hC6
  have hB6 := Lib.hid (nx hB5.out hC6); clear hC6 hB5
  go_wp2_with fail
  refine (HL.out.2 _ T6).mono ?_; rintro e w7 ⟨rfl, hC7⟩
  have T7 := T6.below' hC7
  have hB7 := Lib.hid (nx hB6.out hC7); clear hC7 hB6
  go_wp2_with fail
  refine (HZ.out _ T7).mono ?_; rintro e w8 ⟨rfl, hC8⟩
  have T8 := T7.below' hC8
  have hB8 := Lib.hid (nx hB7.out hC8); clear hC8 hB7
  go_wp2_with fail
  go_ret
  exact ⟨rfl, hB8.out⟩
set_option maxRecDepth 100000 in
theorem sides_no_yes_yes1 (x n l r a b c z v : Int) (w : World) (HS : Hid (SNo x n)) (HL : Hid (LYes x l r a b c)) (hab : 0 ≤ a ∧ a ≤ b ∧ b ≤ c ∧ c ≤ 1000) (hd : b - a = c - b) (HZ : Hid (ZYes n z v)) (hz : n ≤ z) (hz1 : z = 1) (hT : Tab w) :
    Calls Tryd.prog 7 #[.int .i64 x, .int .i64 n] w fun e w' => e = .returned (.bool true) ∧ Below w.heap.size w w' := by
  have ta : (a != a) = false := by simp
  have tb : (b != b) = false := by simp
  have tc : (c != c) = false := by simp
  have td : ((b - a) != (c - b)) = false := by rw [hd]; simp
  have tz : decide (n ≤ z) = true := decide_eq_true hz
  have tz1 : (z == 1) = true := by rw [hz1]; rfl
  clear hz1
  go_enter Tryd.func7, Tryd.ntmps7
  go_wp2_with fail
  refine (lead w hT).mono ?_; rintro e w1 ⟨rfl, hB1⟩
  have T1 := hT.below' hB1
  replace hB1 := Lib.hid hB1
  go_wp2_with fail
  refine (HS.out _ T1).mono ?_; rintro e w2 ⟨rfl, hC2⟩
  have T2 := T1.below' hC2
  have hB2 := Lib.hid (nx hB1.out hC2); clear hC2 hB1
  go_wp2_with fail
  refine (HL.out.1 _ T2).mono ?_; rintro e w3 ⟨rfl, hC3⟩
  have T3 := T2.below' hC3
  have hB3 := Lib.hid (nx hB2.out hC3); clear hC3 hB2
  go_wp2_with fail
  refine (HL.out.2.1 _ T3).mono ?_; rintro e w4 ⟨rfl, hC4⟩
  have T4 := T3.below' hC4
  have hB4 := Lib.hid (nx hB3.out hC4); clear hC4 hB3
  go_wp2_with fail
  refine (HL.out.2.2.1 _ T4).mono ?_; rintro e w' ⟨rfl, rfl⟩
  go_wp2_with fail
  refine (HL.out.2.2.2.1 _ T4).mono ?_; rintro e w' ⟨rfl, rfl⟩
  go_wp2_with fail
  refine (HL.out.2.2.2.2 _ T4).mono ?_; rintro e w' ⟨rfl, rfl⟩
  go_wp2_with fail
  refine (HZ.out.1 _ T4).mono ?_; rintro e w5 ⟨rfl, hC5⟩
  have T5 := T4.below' hC5
  have hB5 := Lib.hid (nx hB4.out hC5); clear hC5 hB4
  go_wp2_with fail
  refine (HZ.out.2 _ T5).mono ?_; rintro e w6 ⟨rfl, hC6⟩
  have T6 := T5.below' hC6
  have hB6 := Lib.hid (nx hB5.out hC6); clear hC6 hB5
  go_wp2_with fail
  go_ret
  exact ⟨rfl, hB6.out⟩
set_option maxRecDepth 100000 in
theorem sides_no_yes_yes2 (x n l r a b c z v : Int) (w : World) (HS : Hid (SNo x n)) (HL : Hid (LYes x l r a b c)) (hab : 0 ≤ a ∧ a ≤ b ∧ b ≤ c ∧ c ≤ 1000) (hd : b - a = c - b) (HZ : Hid (ZYes n z v)) (hz : n ≤ z) (hz0 : 0 ≤ z ∧ z ≤ 256) (hz1 : z ≠ 1) (hz2 : z / 2 < n) (hT : Tab w) :
    Calls Tryd.prog 7 #[.int .i64 x, .int .i64 n] w fun e w' => e = .returned (.bool true) ∧ Below w.heap.size w w' := by
  have ta : (a != a) = false := by simp
  have tb : (b != b) = false := by simp
  have tc : (c != c) = false := by simp
  have td : ((b - a) != (c - b)) = false := by rw [hd]; simp
  have tz : decide (n ≤ z) = true := decide_eq_true hz
  have tz1 : (z == 1) = false := by rw [beq_eq_false_iff_ne]; exact hz1
  have tz2 : decide (z / 2 < n) = true := decide_eq_true hz2
  go_enter Tryd.func7, Tryd.ntmps7
  go_wp2_with fail
  refine (lead w hT).mono ?_; rintro e w1 ⟨rfl, hB1⟩
  have T1 := hT.below' hB1
  replace hB1 := Lib.hid hB1
  go_wp2_with fail
  refine (HS.out _ T1).mono ?_; rintro e w2 ⟨rfl, hC2⟩
  have T2 := T1.below' hC2
  have hB2 := Lib.hid (nx hB1.out hC2); clear hC2 hB1
  go_wp2_with fail
  refine (HL.out.1 _ T2).mono ?_; rintro e w3 ⟨rfl, hC3⟩
  have T3 := T2.below' hC3
  have hB3 := Lib.hid (nx hB2.out hC3); clear hC3 hB2
  go_wp2_with fail
  refine (HL.out.2.1 _ T3).mono ?_; rintro e w4 ⟨rfl, hC4⟩
  have T4 := T3.below' hC4
  have hB4 := Lib.hid (nx hB3.out hC4); clear hC4 hB3
  go_wp2_with fail
  refine (HL.out.2.2.1 _ T4).mono ?_; rintro e w' ⟨rfl, rfl⟩
  go_wp2_with fail
  refine (HL.out.2.2.2.1 _ T4).mono ?_; rintro e w' ⟨rfl, rfl⟩
  go_wp2_with fail
  refine (HL.out.2.2.2.2 _ T4).mono ?_; rintro e w' ⟨rfl, rfl⟩
  go_wp2_with fail
  refine (HZ.out.1 _ T4).mono ?_; rintro e w5 ⟨rfl, hC5⟩
  have T5 := T4.below' hC5
  have hB5 := Lib.hid (nx hB4.out hC5); clear hC5 hB4
  go_wp2_with fail
  refine (HZ.out.2 _ T5).mono ?_; rintro e w6 ⟨rfl, hC6⟩
  have T6 := T5.below' hC6
  have hB6 := Lib.hid (nx hB5.out hC6); clear hC6 hB5
  go_wp2_with fail
  go_ret
  exact ⟨rfl, hB6.out⟩
set_option maxRecDepth 100000 in
theorem sides_no_yes_no1 (x n l r a b c : Int) (w : World) (HS : Hid (SNo x n)) (HL : Hid (LYes x l r a b c)) (hab : 0 ≤ a ∧ a ≤ b ∧ b ≤ c ∧ c ≤ 1000) (hd : b - a = c - b) (HZ : Hid (ZNo n)) (hz : n < 1) (hT : Tab w) :
    Calls Tryd.prog 7 #[.int .i64 x, .int .i64 n] w fun e w' => e = .returned (.bool true) ∧ Below w.heap.size w w' := by
  have ta : (a != a) = false := by simp
  have tb : (b != b) = false := by simp
  have tc : (c != c) = false := by simp
  have td : ((b - a) != (c - b)) = false := by rw [hd]; simp
  have tz : decide (n < 1) = true := decide_eq_true hz
  go_enter Tryd.func7, Tryd.ntmps7
  go_wp2_with fail
  refine (lead w hT).mono ?_; rintro e w1 ⟨rfl, hB1⟩
  have T1 := hT.below' hB1
  replace hB1 := Lib.hid hB1
  go_wp2_with fail
  refine (HS.out _ T1).mono ?_; rintro e w2 ⟨rfl, hC2⟩
  have T2 := T1.below' hC2
  have hB2 := Lib.hid (nx hB1.out hC2); clear hC2 hB1
  go_wp2_with fail
  refine (HL.out.1 _ T2).mono ?_; rintro e w3 ⟨rfl, hC3⟩
  have T3 := T2.below' hC3
  have hB3 := Lib.hid (nx hB2.out hC3); clear hC3 hB2
  go_wp2_with fail
  refine (HL.out.2.1 _ T3).mono ?_; rintro e w4 ⟨rfl, hC4⟩
  have T4 := T3.below' hC4
  have hB4 := Lib.hid (nx hB3.out hC4); clear hC4 hB3
  go_wp2_with fail
  refine (HL.out.2.2.1 _ T4).mono ?_; rintro e w' ⟨rfl, rfl⟩
  go_wp2_with fail
  refine (HL.out.2.2.2.1 _ T4).mono ?_; rintro e w' ⟨rfl, rfl⟩
  go_wp2_with fail
  refine (HL.out.2.2.2.2 _ T4).mono ?_; rintro e w' ⟨rfl, rfl⟩
  go_wp2_with fail
  refine (HZ.out _ T4).mono ?_; rintro e w5 ⟨rfl, hC5⟩
  have T5 := T4.below' hC5
  have hB5 := Lib.hid (nx hB4.out hC5); clear hC5 hB4
  go_wp2_with fail
  go_ret
  exact ⟨rfl, hB5.out⟩
set_option maxRecDepth 100000 in
theorem sides_no_yes_no2 (x n l r a b c : Int) (w : World) (HS : Hid (SNo x n)) (HL : Hid (LYes x l r a b c)) (hab : 0 ≤ a ∧ a ≤ b ∧ b ≤ c ∧ c ≤ 1000) (hd : b - a = c - b) (HZ : Hid (ZNo n)) (hz : 256 < n) (hT : Tab w) :
    Calls Tryd.prog 7 #[.int .i64 x, .int .i64 n] w fun e w' => e = .returned (.bool true) ∧ Below w.heap.size w w' := by
  have ta : (a != a) = false := by simp
  have tb : (b != b) = false := by simp
  have tc : (c != c) = false := by simp
  have td : ((b - a) != (c - b)) = false := by rw [hd]; simp
  have tz : decide (n < 1) = false := decide_eq_false (by omega)
  have tz2 : decide (256 < n) = true := decide_eq_true hz
  go_enter Tryd.func7, Tryd.ntmps7
  go_wp2_with fail
  refine (lead w hT).mono ?_; rintro e w1 ⟨rfl, hB1⟩
  have T1 := hT.below' hB1
  replace hB1 := Lib.hid hB1
  go_wp2_with fail
  refine (HS.out _ T1).mono ?_; rintro e w2 ⟨rfl, hC2⟩
  have T2 := T1.below' hC2
  have hB2 := Lib.hid (nx hB1.out hC2); clear hC2 hB1
  go_wp2_with fail
  refine (HL.out.1 _ T2).mono ?_; rintro e w3 ⟨rfl, hC3⟩
  have T3 := T2.below' hC3
  have hB3 := Lib.hid (nx hB2.out hC3); clear hC3 hB2
  go_wp2_with fail
  refine (HL.out.2.1 _ T3).mono ?_; rintro e w4 ⟨rfl, hC4⟩
  have T4 := T3.below' hC4
  have hB4 := Lib.hid (nx hB3.out hC4); clear hC4 hB3
  go_wp2_with fail
  refine (HL.out.2.2.1 _ T4).mono ?_; rintro e w' ⟨rfl, rfl⟩
  go_wp2_with fail
  refine (HL.out.2.2.2.1 _ T4).mono ?_; rintro e w' ⟨rfl, rfl⟩
  go_wp2_with fail
  refine (HL.out.2.2.2.2 _ T4).mono ?_; rintro e w' ⟨rfl, rfl⟩
  go_wp2_with fail
  refine (HZ.out _ T4).mono ?_; rintro e w5 ⟨rfl, hC5⟩
  have T5 := T4.below' hC5
  have hB5 := Lib.hid (nx hB4.out hC5); clear hC5 hB4
  go_wp2_with fail
  go_ret
  exact ⟨rfl, hB5.out⟩
set_option maxRecDepth 100000 in
theorem sides_no_no_yes1 (x n z v : Int) (w : World) (HS : Hid (SNo x n)) (HL : Hid (LNo x)) (HZ : Hid (ZYes n z v)) (hz : n ≤ z) (hz1 : z = 1) (hT : Tab w) :
    Calls Tryd.prog 7 #[.int .i64 x, .int .i64 n] w fun e w' => e = .returned (.bool true) ∧ Below w.heap.size w w' := by
  have tz : decide (n ≤ z) = true := decide_eq_true hz
  have tz1 : (z == 1) = true := by rw [hz1]; rfl
  clear hz1
  go_enter Tryd.func7, Tryd.ntmps7
  go_wp2_with fail
  refine (lead w hT).mono ?_; rintro e w1 ⟨rfl, hB1⟩
  have T1 := hT.below' hB1
  replace hB1 := Lib.hid hB1
  go_wp2_with fail
  refine (HS.out _ T1).mono ?_; rintro e w2 ⟨rfl, hC2⟩
  have T2 := T1.below' hC2
  have hB2 := Lib.hid (nx hB1.out hC2); clear hC2 hB1
  go_wp2_with fail
  refine (HL.out.1 _ T2).mono ?_; rintro e w3 ⟨rfl, hC3⟩
  have T3 := T2.below' hC3
  have hB3 := Lib.hid (nx hB2.out hC3); clear hC3 hB2
  go_wp2_with fail
  refine (HL.out.2 _ T3).mono ?_; rintro e w4 ⟨rfl, hC4⟩
  have T4 := T3.below' hC4
  have hB4 := Lib.hid (nx hB3.out hC4); clear hC4 hB3
  go_wp2_with fail
  refine (HZ.out.1 _ T4).mono ?_; rintro e w5 ⟨rfl, hC5⟩
  have T5 := T4.below' hC5
  have hB5 := Lib.hid (nx hB4.out hC5); clear hC5 hB4
  go_wp2_with fail
  refine (HZ.out.2 _ T5).mono ?_; rintro e w6 ⟨rfl, hC6⟩
  have T6 := T5.below' hC6
  have hB6 := Lib.hid (nx hB5.out hC6); clear hC6 hB5
  go_wp2_with fail
  go_ret
  exact ⟨rfl, hB6.out⟩
set_option maxRecDepth 100000 in
theorem sides_no_no_yes2 (x n z v : Int) (w : World) (HS : Hid (SNo x n)) (HL : Hid (LNo x)) (HZ : Hid (ZYes n z v)) (hz : n ≤ z) (hz0 : 0 ≤ z ∧ z ≤ 256) (hz1 : z ≠ 1) (hz2 : z / 2 < n) (hT : Tab w) :
    Calls Tryd.prog 7 #[.int .i64 x, .int .i64 n] w fun e w' => e = .returned (.bool true) ∧ Below w.heap.size w w' := by
  have tz : decide (n ≤ z) = true := decide_eq_true hz
  have tz1 : (z == 1) = false := by rw [beq_eq_false_iff_ne]; exact hz1
  have tz2 : decide (z / 2 < n) = true := decide_eq_true hz2
  go_enter Tryd.func7, Tryd.ntmps7
  go_wp2_with fail
  refine (lead w hT).mono ?_; rintro e w1 ⟨rfl, hB1⟩
  have T1 := hT.below' hB1
  replace hB1 := Lib.hid hB1
  go_wp2_with fail
  refine (HS.out _ T1).mono ?_; rintro e w2 ⟨rfl, hC2⟩
  have T2 := T1.below' hC2
  have hB2 := Lib.hid (nx hB1.out hC2); clear hC2 hB1
  go_wp2_with fail
  refine (HL.out.1 _ T2).mono ?_; rintro e w3 ⟨rfl, hC3⟩
  have T3 := T2.below' hC3
  have hB3 := Lib.hid (nx hB2.out hC3); clear hC3 hB2
  go_wp2_with fail
  refine (HL.out.2 _ T3).mono ?_; rintro e w4 ⟨rfl, hC4⟩
  have T4 := T3.below' hC4
  have hB4 := Lib.hid (nx hB3.out hC4); clear hC4 hB3
  go_wp2_with fail
  refine (HZ.out.1 _ T4).mono ?_; rintro e w5 ⟨rfl, hC5⟩
  have T5 := T4.below' hC5
  have hB5 := Lib.hid (nx hB4.out hC5); clear hC5 hB4
  go_wp2_with fail
  refine (HZ.out.2 _ T5).mono ?_; rintro e w6 ⟨rfl, hC6⟩
  have T6 := T5.below' hC6
  have hB6 := Lib.hid (nx hB5.out hC6); clear hC6 hB5
  go_wp2_with fail
  go_ret
  exact ⟨rfl, hB6.out⟩
set_option maxRecDepth 100000 in
theorem sides_no_no_no1 (x n : Int) (w : World) (HS : Hid (SNo x n)) (HL : Hid (LNo x)) (HZ : Hid (ZNo n)) (hz : n < 1) (hT : Tab w) :
    Calls Tryd.prog 7 #[.int .i64 x, .int .i64 n] w fun e w' => e = .returned (.bool true) ∧ Below w.heap.size w w' := by
  have tz : decide (n < 1) = true := decide_eq_true hz
  go_enter Tryd.func7, Tryd.ntmps7
  go_wp2_with fail
  refine (lead w hT).mono ?_; rintro e w1 ⟨rfl, hB1⟩
  have T1 := hT.below' hB1
  replace hB1 := Lib.hid hB1
  go_wp2_with fail
  refine (HS.out _ T1).mono ?_; rintro e w2 ⟨rfl, hC2⟩
  have T2 := T1.below' hC2
  have hB2 := Lib.hid (nx hB1.out hC2); clear hC2 hB1
  go_wp2_with fail
  refine (HL.out.1 _ T2).mono ?_; rintro e w3 ⟨rfl, hC3⟩
  have T3 := T2.below' hC3
  have hB3 := Lib.hid (nx hB2.out hC3); clear hC3 hB2
  go_wp2_with fail
  refine (HL.out.2 _ T3).mono ?_; rintro e w4 ⟨rfl, hC4⟩
  have T4 := T3.below' hC4
  have hB4 := Lib.hid (nx hB3.out hC4); clear hC4 hB3
  go_wp2_with fail
  refine (HZ.out _ T4).mono ?_; rintro e w5 ⟨rfl, hC5⟩
  have T5 := T4.below' hC5
  have hB5 := Lib.hid (nx hB4.out hC5); clear hC5 hB4
  go_wp2_with fail
  go_ret
  exact ⟨rfl, hB5.out⟩
set_option maxRecDepth 100000 in
theorem sides_no_no_no2 (x n : Int) (w : World) (HS : Hid (SNo x n)) (HL : Hid (LNo x)) (HZ : Hid (ZNo n)) (hz : 256 < n) (hT : Tab w) :
    Calls Tryd.prog 7 #[.int .i64 x, .int .i64 n] w fun e w' => e = .returned (.bool true) ∧ Below w.heap.size w w' := by
  have tz : decide (n < 1) = false := decide_eq_false (by omega)
  have tz2 : decide (256 < n) = true := decide_eq_true hz
  go_enter Tryd.func7, Tryd.ntmps7
  go_wp2_with fail
  refine (lead w hT).mono ?_; rintro e w1 ⟨rfl, hB1⟩
  have T1 := hT.below' hB1
  replace hB1 := Lib.hid hB1
  go_wp2_with fail
  refine (HS.out _ T1).mono ?_; rintro e w2 ⟨rfl, hC2⟩
  have T2 := T1.below' hC2
  have hB2 := Lib.hid (nx hB1.out hC2); clear hC2 hB1
  go_wp2_with fail
  refine (HL.out.1 _ T2).mono ?_; rintro e w3 ⟨rfl, hC3⟩
  have T3 := T2.below' hC3
  have hB3 := Lib.hid (nx hB2.out hC3); clear hC3 hB2
  go_wp2_with fail
  refine (HL.out.2 _ T3).mono ?_; rintro e w4 ⟨rfl, hC4⟩
  have T4 := T3.below' hC4
  have hB4 := Lib.hid (nx hB3.out hC4); clear hC4 hB3
  go_wp2_with fail
  refine (HZ.out _ T4).mono ?_; rintro e w5 ⟨rfl, hC5⟩
  have T5 := T4.below' hC5
  have hB5 := Lib.hid (nx hB4.out hC5); clear hC5 hB4
  go_wp2_with fail
  go_ret
  exact ⟨rfl, hB5.out⟩

theorem sidesWalk (x n : Int) (w : World) (_ : -9223372036854775808 ≤ x ∧ x ≤ 9223372036854775807) (_ : -9223372036854775808 ≤ n ∧ n ≤ 9223372036854775807) (hT : Tab w) :
    Calls Tryd.prog 7 #[.int .i64 x, .int .i64 n] w fun e w' => e = .returned (.bool true) ∧ Below w.heap.size w w' := by
  have hS : (∃ s u, SYes x n s u) ∨ SNo x n := by
    by_cases h : InsI x n
    · by_cases e : x = n - 1
      · exact .inr fun W _ => sibling_no x n W (.inr ⟨h, e⟩)
      · obtain ⟨a, b, rfl, rfl, hab⟩ := InsI.nat' h
        have hne : a + 1 ≠ b := by omega
        obtain ⟨s1, s2, s3, s4, s5⟩ := hab.sib hne
        refine .inl ⟨(sibN a : Nat), (upN a : Nat), fun W hW => sibling_ok a b W hab hne hW, fun W hW => ?_, fun W hW => ?_, fun W hW => parent_ok a b W hab hne hW⟩
        · have := sibling_ok (sibN a) b W s1 s5 hW
          rwa [s4] at this
        · have := com_ok a (sibN a) b W hab s1 hW
          rwa [com_sib hab hne] at this
    · exact .inr fun W _ => sibling_no x n W (.inl h)
  have hL : (∃ l r a b c, LYes x l r a b c ∧ (0 ≤ a ∧ a ≤ b ∧ b ≤ c ∧ c ≤ 1000) ∧ b - a = c - b) ∨ LNo x := by
    by_cases h : x < 0 ∨ 510 < x ∨ (0 ≤ x ∧ x ≤ 510 ∧ x % 2 = 0)
    · exact .inr ⟨fun W _ => left_no x W h, fun W _ => right_no x W h⟩
    · obtain ⟨a, rfl⟩ : ∃ a : Nat, x = a := ⟨x.toNat, by omega⟩
      have ha : a < 511 := by omega
      have ho : a % 2 = 1 := by omega
      have f := nodes_all (p := fun x => x % 2 == 0 || (decide (leftN x < 511) && decide (rightN x < 511) && loN (leftN x) == loN x && hiN (leftN x) == loN (rightN x) && hiN (rightN x) == hiN x && decide (loN (leftN x) ≤ hiN (leftN x)) && decide (loN (rightN x) ≤ hiN (rightN x)) && decide (hiN x ≤ 1000) && hiN (leftN x) - loN (leftN x) == hiN (rightN x) - loN (rightN x))) (by kernel_rfl) ha
      simp only [Bool.or_eq_true, Bool.and_eq_true, decide_eq_true_eq, beq_iff_eq] at f
      have f' := f.resolve_left (by omega)
      obtain ⟨⟨⟨⟨⟨⟨⟨⟨f1, f2⟩, f3⟩, f4⟩, f5⟩, f6⟩, f7⟩, f8⟩, f9⟩ := f'
      refine .inl ⟨(leftN a : Nat), (rightN a : Nat), (loN a : Nat), (loN (rightN a) : Nat), (hiN a : Nat), ⟨fun W hW => left_ok a W ha ho hW, fun W hW => right_ok a W ha ho hW, fun W hW => ?_, fun W hW => ?_, fun W hW => leaves_ok a W ha hW⟩, by omega, by omega⟩
      · have := leaves_ok (leftN a) W f1 hW
        rwa [f3, f4] at this
      · have := leaves_ok (rightN a) W f2 hW
        rwa [f5] at this
  have hZ : (∃ z v, ZYes n z v ∧ n ≤ z ∧ (0 ≤ z ∧ z ≤ 256) ∧ (z = 1 ∨ z / 2 < n)) ∨ (ZNo n ∧ (n < 1 ∨ 256 < n)) := by
    by_cases h : n < 1 ∨ 256 < n
    · exact .inr ⟨fun W _ => size_no n W h, h⟩
    · obtain ⟨m, rfl⟩ : ∃ m : Nat, n = m := ⟨n.toNat, by omega⟩
      obtain ⟨f1, f2, f3, _, _⟩ := size_fact (n := m) (by omega) (by omega)
      have := size_le f1
      exact .inl ⟨(sizeN m : Nat), _, ⟨fun W _ => size_ok m W (by omega) (by omega), fun W _ => width_ok (sizeN m) W f1⟩, by omega, by omega, by omega⟩
  rcases hS with ⟨s, u, hS⟩ | hS <;> rcases hL with ⟨l, r, a, b, c, hL, hab, hd⟩ | hL <;> rcases hZ with ⟨z, v, hZ, z1, z2, z3⟩ | ⟨hZ, z1⟩
  · by_cases e : z = 1
    · exact sides_yes_yes_yes1 x n s u l r a b c z v w (Lib.hid hS) (Lib.hid hL) hab hd (Lib.hid hZ) z1 e hT
    · exact sides_yes_yes_yes2 x n s u l r a b c z v w (Lib.hid hS) (Lib.hid hL) hab hd (Lib.hid hZ) z1 z2 e (z3.resolve_left e) hT
  · rcases z1 with z1 | z1
    · exact sides_yes_yes_no1 x n s u l r a b c w (Lib.hid hS) (Lib.hid hL) hab hd (Lib.hid hZ) z1 hT
    · exact sides_yes_yes_no2 x n s u l r a b c w (Lib.hid hS) (Lib.hid hL) hab hd (Lib.hid hZ) z1 hT
  · by_cases e : z = 1
    · exact sides_yes_no_yes1 x n s u z v w (Lib.hid hS) (Lib.hid hL) (Lib.hid hZ) z1 e hT
    · exact sides_yes_no_yes2 x n s u z v w (Lib.hid hS) (Lib.hid hL) (Lib.hid hZ) z1 z2 e (z3.resolve_left e) hT
  · rcases z1 with z1 | z1
    · exact sides_yes_no_no1 x n s u w (Lib.hid hS) (Lib.hid hL) (Lib.hid hZ) z1 hT
    · exact sides_yes_no_no2 x n s u w (Lib.hid hS) (Lib.hid hL) (Lib.hid hZ) z1 hT
  · by_cases e : z = 1
    · exact sides_no_yes_yes1 x n l r a b c z v w (Lib.hid hS) (Lib.hid hL) hab hd (Lib.hid hZ) z1 e hT
    · exact sides_no_yes_yes2 x n l r a b c z v w (Lib.hid hS) (Lib.hid hL) hab hd (Lib.hid hZ) z1 z2 e (z3.resolve_left e) hT
  · rcases z1 with z1 | z1
    · exact sides_no_yes_no1 x n l r a b c w (Lib.hid hS) (Lib.hid hL) hab hd (Lib.hid hZ) z1 hT
    · exact sides_no_yes_no2 x n l r a b c w (Lib.hid hS) (Lib.hid hL) hab hd (Lib.hid hZ) z1 hT
  · by_cases e : z = 1
    · exact sides_no_no_yes1 x n z v w (Lib.hid hS) (Lib.hid hL) (Lib.hid hZ) z1 e hT
    · exact sides_no_no_yes2 x n z v w (Lib.hid hS) (Lib.hid hL) (Lib.hid hZ) z1 z2 e (z3.resolve_left e) hT
  · rcases z1 with z1 | z1
    · exact sides_no_no_no1 x n w (Lib.hid hS) (Lib.hid hL) (Lib.hid hZ) z1 hT
    · exact sides_no_no_no2 x n w (Lib.hid hS) (Lib.hid hL) (Lib.hid hZ) z1 hT
end Go.Proofs.YtieeinppoiihpaaDoor
