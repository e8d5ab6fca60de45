/- The walk of the law WireNumbers. -/
import Derived.WalkLawsBesides
import Derived.Test.YtjebmmmjjiomfaaWideWalk
namespace Go.Proofs.Ytjebmmmjjiomfaa
open Go.RowKit

theorem intL_less (a b : Nat) (ha : a < 1073741824) (hb : b < 1073741824) : Op.bytesLess (intL a) (intL b) = decide (a < b) := by
  rw [Bool.eq_iff_iff, decide_eq_true_iff]
  have a1 : a / 256 / 256 = a / 65536 := Nat.div_div_eq_div_mul ..
  have a2 : a / 65536 / 256 = a / 16777216 := Nat.div_div_eq_div_mul ..
  have b1 : b / 256 / 256 = b / 65536 := Nat.div_div_eq_div_mul ..
  have b2 : b / 65536 / 256 = b / 16777216 := Nat.div_div_eq_div_mul ..
  have a3 : (128 + a / 16777216) % 256 = 128 + a / 16777216 := by omega
  have b3 : (128 + b / 16777216) % 256 = 128 + b / 16777216 := by omega
  unfold intL
  repeat' split
  all_goals
    (simp only [a3, b3, Op.bytesLess, Bool.or_eq_true, Bool.and_eq_true, decide_eq_true_iff, beq_iff_eq, ← UInt8.toNat_inj, UInt8.lt_iff_toNat_lt, ofNat_toNat, Bool.false_eq_true, or_false, and_false]; omega)

theorem intI (x : Int) (L : Nat) (w : World) (hx : Hid (0 ≤ x ∧ x ≤ 1073741823)) (hL : Hid ((intL x.toNat).length = L)) :
    Calls Try.prog 16 #[.int .i64 x] w fun e w' => ∃ A c, e = .returned (.tuple #[.slice A L c, .int .i64 0]) ∧ Sl w' A L c (bv (intL x.toNat)) ∧ Below w.heap.size w w' := by
  obtain ⟨n, rfl⟩ : ∃ n : Nat, x = n := ⟨x.toNat, by have := hx.out; omega⟩
  have := int_ok n w (by have := hx.out; omega)
  rw [Int.toNat_natCast] at hL ⊢
  rw [← hL.out]
  exact this.mono fun e w' ⟨A, c, a1, a2, a3⟩ => ⟨A, c, a1, a2.sl, a3⟩
theorem takeIntI (x : Int) (L : Nat) (A : Option Addr) (c : Nat) (w : World) (h : Sl w A L c (bv (intL x.toNat))) (hx : Hid (0 ≤ x ∧ x ≤ 1073741823)) (hL : Hid ((intL x.toNat).length = L)) :
    Calls Try.prog 17 #[.slice A L c] w fun e w' => e = .returned (.tuple #[.int .i64 x, .int .i64 (L : Int), .int .i64 0]) ∧ w = w' :=
  (takeInt_any A L c _ w h).mono fun e w' ⟨h1, h2⟩ => by
    have := take_int x.toNat (by have := hx.out; omega) []
    rw [List.append_nil] at this
    rw [this, hL.out] at h1
    refine ⟨h1.trans ?_, h2⟩
    have e : ((x.toNat : Nat) : Int) = x := by have := hx.out; omega
    show Ending.returned (.tuple #[.int .i64 ((x.toNat : Nat) : Int), _, _]) = _
    rw [e]; rfl

/-- both are numbers -/
theorem numsYes (x y : Int) (L : Nat) (w : World) (hx : Hid (0 ≤ x ∧ x ≤ 1073741823)) (hy : Hid (0 ≤ y ∧ y ≤ 1073741823)) (hL : Hid ((intL x.toNat).length = L)) (hf : (L = 1 ∧ x < 64) ∨ (L = 2 ∧ 64 ≤ x ∧ x < 16384) ∨ (L = 4 ∧ 16384 ≤ x)) :
    Calls Try.prog 3 #[.int .i64 x, .int .i64 y] w fun e w' => e = .returned (.bool true) ∧ Below w.heap.size w w' := by
  have hless : Op.bytesLess (intL x.toNat) (intL y.toNat) = decide (x < y) := by
    rw [intL_less _ _ (by have := hx.out; omega) (by have := hy.out; omega), decide_eq_decide]
    have := hx.out; have := hy.out; omega
  have HL := Lib.hid hless; clear hless
  rcases hf with ⟨rfl, hf⟩ | ⟨rfl, hf0, hf⟩ | ⟨rfl, hf⟩
  all_goals
    go_enter Try.func3, Try.ntmps3
    go_wp2_with (first
      | (go_at_call 15; refine (lead w).mono ?_; rintro e w1 ⟨rfl, hB1⟩)
      | (go_at_call 16; fail))
    refine (intI x _ w1 hx hL).mono ?_; rintro e w2 ⟨A2, c2, rfl, hS2, hB2⟩
    go_wp2_with fail
    refine (intI y _ w2 hy (Lib.hid rfl)).mono ?_; rintro e w3 ⟨A3, c3, rfl, hS3, hB3⟩
    go_wp2_with (go_at_call 17; fail)
    refine (takeIntI x _ A2 c2 w3 (hS2.below hB3) hx hL).mono ?_; rintro e w' ⟨rfl, rfl⟩
    have q1 := (hS2.below hB3).str (P := Try.prog) Try.underlying23 Try.underlying5 Try.underlying9
    have q2 := hS3.str (P := Try.prog) Try.underlying23 Try.underlying5 Try.underlying9
    have hl := HL.out
    go_wp2_with fail
    go_ret
    exact ⟨rfl, nx (nx hB1 hB2) hB3⟩

theorem numsNo1 (x y : Int) (w : World) (hx : x < 0 ∨ 1073741824 ≤ x) :
    Calls Try.prog 3 #[.int .i64 x, .int .i64 y] w fun e w' => e = .returned (.bool true) ∧ Below w.heap.size w w' := by
  have HX : Hid (x < 0 ∨ 1073741823 < x) := Lib.hid (by omega)
  by_cases hg : 0 ≤ y ∧ y ≤ 1073741823
  · have HG := Lib.hid hg
    obtain ⟨g1, g2⟩ := hg
    rcases hx with hx | hx
    all_goals
      go_enter Try.func3, Try.ntmps3
      go_wp2_with (first
        | (go_at_call 15; refine (lead w).mono ?_; rintro e w1 ⟨rfl, hB1⟩)
        | (go_at_call 16; fail))
      refine (int_no x w1 HX.out).mono ?_; rintro e w' ⟨rfl, rfl⟩
      go_wp2_with fail
      refine (intI y _ w1 HG (Lib.hid rfl)).mono ?_; rintro e w3 ⟨A3, c3, rfl, hS3, hB3⟩
      go_wp2_with fail
      go_ret
      exact ⟨rfl, nx hB1 hB3⟩
  · have hb : y < 0 ∨ 1073741824 ≤ y := by omega
    clear hg
    have HG : Hid (y < 0 ∨ 1073741823 < y) := Lib.hid (by omega)
    rcases hx with hx | hx <;> rcases hb with hb | hb
    all_goals
      go_enter Try.func3, Try.ntmps3
      go_wp2_with (first
        | (go_at_call 15; refine (lead w).mono ?_; rintro e w1 ⟨rfl, hB1⟩)
        | (go_at_call 16; fail))
      refine (int_no x w1 HX.out).mono ?_; rintro e w' ⟨rfl, rfl⟩
      go_wp2_with fail
      refine (int_no y w1 HG.out).mono ?_; rintro e w' ⟨rfl, rfl⟩
      go_wp2_with fail
      go_ret
      exact ⟨rfl, hB1⟩
theorem numsNo2 (x y : Int) (w : World) (hg : 0 ≤ x ∧ x ≤ 1073741823) (hy : y < 0 ∨ 1073741824 ≤ y) :
    Calls Try.prog 3 #[.int .i64 x, .int .i64 y] w fun e w' => e = .returned (.bool true) ∧ Below w.heap.size w w' := by
  have HG := Lib.hid hg; have HY : Hid (y < 0 ∨ 1073741823 < y) := Lib.hid (by omega)
  obtain ⟨g1, g2⟩ := hg
  rcases hy with hy | hy
  all_goals
    go_enter Try.func3, Try.ntmps3
    go_wp2_with (first
      | (go_at_call 15; refine (lead w).mono ?_; rintro e w1 ⟨rfl, hB1⟩)
      | (go_at_call 16; fail))
    refine (intI x _ w1 HG (Lib.hid rfl)).mono ?_; rintro e w2 ⟨A2, c2, rfl, hS2, hB2⟩
    go_wp2_with fail
    refine (int_no y w2 HY.out).mono ?_; rintro e w' ⟨rfl, rfl⟩
    go_wp2_with fail
    go_ret
    exact ⟨rfl, nx hB1 hB2⟩
theorem intL_few (x : Int) (h : 0 ≤ x) : ∃ L, Hid ((intL x.toNat).length = L) ∧ ((L = 1 ∧ x < 64) ∨ (L = 2 ∧ 64 ≤ x ∧ x < 16384) ∨ (L = 4 ∧ 16384 ≤ x)) := by
  refine ⟨_, rfl, ?_⟩
  unfold intL
  split
  · exact .inl ⟨rfl, by omega⟩
  · split
    · exact .inr (.inl ⟨rfl, by omega, by omega⟩)
    · exact .inr (.inr ⟨rfl, by omega⟩)
theorem numsWalk (x y : Int) (w : World) (_ : -9223372036854775808 ≤ x ∧ x ≤ 9223372036854775807) (_ : -9223372036854775808 ≤ y ∧ y ≤ 9223372036854775807) :
    Calls Try.prog 3 #[.int .i64 x, .int .i64 y] w fun e w' => e = .returned (.bool true) ∧ Below w.heap.size w w' := by
  by_cases hx : 0 ≤ x ∧ x ≤ 1073741823
  · by_cases hy : 0 ≤ y ∧ y ≤ 1073741823
    · obtain ⟨L, h1, h2⟩ := intL_few x hx.1
      exact numsYes x y L w hx hy h1 h2
    · exact numsNo2 x y w hx (by omega)
  · exact numsNo1 x y w (by omega)
end Go.Proofs.Ytjebmmmjjiomfaa
