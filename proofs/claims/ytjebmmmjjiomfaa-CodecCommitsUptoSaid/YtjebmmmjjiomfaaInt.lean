/- The walks of wire.Int and wire.TakeInt. -/
import Derived.Test.YtjebmmmjjiomfaaWide
namespace Go.Proofs.Ytjebmmmjjiomfaa
open Go.RowKit

theorem ofInt_i64 (a : Nat) (ha : a < 9223372036854775808) : (BitVec.ofInt 64 (a : Int)).toNat = a := by
  rw [BitVec.ofInt_natCast, BitVec.toNat_ofNat]; exact Nat.mod_eq_of_lt (by omega)
theorem i64_and_nat (a b : Nat) (ha : a < 9223372036854775808) (hb : b < 9223372036854775808) : bits .and .i64 (a : Int) (b : Int) = ((a &&& b : Nat) : Int) := by
  have hx : a &&& b < 2 ^ 63 := Nat.and_lt_two_pow _ (by omega)
  show IntKind.i64.wrap ((BitVec.ofInt 64 (a : Int) &&& BitVec.ofInt 64 (b : Int)).toNat : Int) = _
  rw [BitVec.toNat_and, ofInt_i64 a ha, ofInt_i64 b hb, IntKind.wrap_i64]
  omega

theorem size_any (n : Nat) (w : World) : Calls Try.prog 55 #[.int .i64 (n : Int)] w fun e w' => e = .returned (.int .i64 (sz n : Nat)) ∧ w = w' := by
  have hs : sz n = if n < 64 then 0 else if n < 16384 then 1 else 2 := rfl
  by_cases h1 : n < 64
  · have e : sz n = 0 := by rw [hs, if_pos h1]
    rw [e]; clear hs e
    go_enter Try.func55, Try.ntmps55
    go_wp2_with fail
    go_ret
    exact ⟨rfl, rfl⟩
  · by_cases h2 : n < 16384
    · have e : sz n = 1 := by rw [hs, if_neg h1, if_pos h2]
      rw [e]; clear hs e
      have i1 : ¬ (n : Int) < 64 := by omega
      have i2 : (n : Int) < 16384 := by omega
      clear h1 h2
      go_enter Try.func55, Try.ntmps55
      go_wp2_with fail
      go_ret
      exact ⟨rfl, rfl⟩
    · have e : sz n = 2 := by rw [hs, if_neg h1, if_neg h2]
      rw [e]; clear hs e
      have i1 : ¬ (n : Int) < 64 := by omega
      have i2 : ¬ (n : Int) < 16384 := by omega
      clear h1 h2
      go_enter Try.func55, Try.ntmps55
      go_wp2_with fail
      go_ret
      exact ⟨rfl, rfl⟩
theorem wideL1 (n : Nat) : wideL n 1 = [UInt8.ofNat n] := by simp [wideL]
theorem wideL2 (n : Nat) : wideL n 2 = [UInt8.ofNat (n / 256), UInt8.ofNat n] := by simp [wideL, List.range_succ]
theorem wideL4 (n : Nat) : wideL n 4 = [UInt8.ofNat (n / 16777216), UInt8.ofNat (n / 65536), UInt8.ofNat (n / 256), UInt8.ofNat n] := by simp [wideL, List.range_succ]
theorem or_head (a k : Nat) (ha : a < 64) (hk : k ≤ 2) : bits .or .u8 (a : Int) ((k * 64 : Nat) : Int) = ((k * 64 + a : Nat) : Int) := by
  have hc : k = 0 ∨ k = 1 ∨ k = 2 := by omega
  have : ∀ a : Fin 64, bits .or .u8 ((a.val : Nat) : Int) ((0 : Nat) : Int) = ((0 + a.val : Nat) : Int) ∧ bits .or .u8 ((a.val : Nat) : Int) ((64 : Nat) : Int) = ((64 + a.val : Nat) : Int) ∧ bits .or .u8 ((a.val : Nat) : Int) ((128 : Nat) : Int) = ((128 + a.val : Nat) : Int) := by decide +kernel
  have t := this ⟨a, ha⟩
  rcases hc with rfl | rfl | rfl
  · exact t.1
  · exact t.2.1
  · exact t.2.2

theorem int_close {w1 : World} {base g m c x : Nat} {b : UInt8} {r : List UInt8} {K : Int} (h : Ow w1 base 5 1 (some ⟨g, 0, none⟩) m c (bv (b :: r))) (hor : bits .or .u8 (b.toNat : Int) K = ((x : Nat) : Int)) (hx : x < 256) :
    Ow (w1.setCell ⟨g, 0, none⟩ (.int .u8 (bits .or .u8 (b.toNat : Int) K))) base 5 1 (some ⟨g, 0, none⟩) m c (bv (UInt8.ofNat x :: r)) := by
  have := h.set_ 0 (.int .u8 (bits .or .u8 (b.toNat : Int) K))
  have e : (bv (b :: r)).set 0 (.int .u8 (bits .or .u8 (b.toNat : Int) K)) = bv (UInt8.ofNat x :: r) := by
    rw [hor]; simp [bv, Nat.mod_eq_of_lt hx]
  rwa [e] at this
theorem shl_one (k : Nat) (h : k ≤ 2) : k = 0 ∨ k = 1 ∨ k = 2 := by omega
set_option maxRecDepth 100000 in
set_option maxHeartbeats 1000000 in
/-- wire.Int at a number of k's width -/
theorem int_at (n k : Nat) (w : World) (h : Hid (n < 1073741824)) (hk : Hid (sz n = k)) (hk2 : k ≤ 2) (b : UInt8) (r : List UInt8) (hb : Hid (wideL n (2 ^ k) = b :: r)) (hb2 : Hid (b.toNat < 64)) (hi : Hid (intL n = UInt8.ofNat (k * 64 + b.toNat) :: r)) (hl : Hid (n < 2 ^ (8 * 2 ^ k))) :
    Calls Try.prog 16 #[.int .i64 (n : Int)] w fun e w' => ∃ A c, e = .returned (.tuple #[.slice A (intL n).length c, .int .i64 0]) ∧ Ow w' w.heap.size 5 1 A (intL n).length c (bv (intL n)) ∧ Below w.heap.size w w' := by
  have hsz := fun W => size_any n W
  rw [hk.out] at hsz
  have hw := fun W => wide_ok n (2 ^ k) W (show n < 18446744073709551616 by have := h.out; omega) Nat.one_le_two_pow (by rcases shl_one k hk2 with rfl | rfl | rfl <;> decide) hl.out
  have hlen : (intL n).length = 2 ^ k := by rw [intL_length, hk.out]
  have HS := Lib.hid hsz; have HW := Lib.hid hw; have HL := Lib.hid hlen; clear hsz hw hlen
  have hor := Lib.hid (or_head b.toNat k hb2.out hk2)
  have i0 : 0 ≤ (n : Int) := by omega
  have i1 : (n : Int) ≤ 1073741823 := by have := h.out; omega
  rcases shl_one k hk2 with rfl | rfl | rfl
  all_goals
    go_enter Try.func16, Try.ntmps16
    go_wp2_with fail
    refine (HS.out _).mono ?_; rintro e w' ⟨rfl, rfl⟩
    go_wp2_with fail
    refine (HW.out _).mono ?_; rintro e w1 ⟨A, c, rfl, hO, hB⟩
    rw [hb.out] at hO
    obtain ⟨g, rfl, hg1, hg2⟩ := hO.form (by decide)
    have hc := hO.cell (j := 0) (u := .int .u8 (b.toNat : Int)) (by simp [bv])
    have hf := hO.frz 0
    go_wp2_with fail
    go_ret2
    rw [HL.out, hi.out]
    exact ⟨_, _, rfl, int_close hO hor.out (by have := hb2.out; omega), hB.setCell hg1 _⟩
theorem int_ok (n : Nat) (w : World) (h : n < 1073741824) :
    Calls Try.prog 16 #[.int .i64 (n : Int)] w fun e w' => ∃ A c, e = .returned (.tuple #[.slice A (intL n).length c, .int .i64 0]) ∧ Ow w' w.heap.size 5 1 A (intL n).length c (bv (intL n)) ∧ Below w.heap.size w w' := by
  by_cases h1 : n < 64
  · refine int_at n 0 w h (Lib.hid (by unfold sz; rw [if_pos h1])) (by omega) (UInt8.ofNat n) [] (wideL1 n) ?_ ?_ ?_
    · show _ < 64; rw [ofNat_toNat]; omega
    · show intL n = _; unfold intL; rw [if_pos h1, ofNat_toNat]; congr 2; omega
    · show n < _; omega
  · by_cases h2 : n < 16384
    · refine int_at n 1 w h (Lib.hid (by unfold sz; rw [if_neg h1, if_pos h2])) (by omega) (UInt8.ofNat (n / 256)) [UInt8.ofNat n] (wideL2 n) ?_ ?_ ?_
      · show _ < 64; rw [ofNat_toNat]; omega
      · show intL n = _; unfold intL; rw [if_neg h1, if_pos h2, ofNat_toNat]; congr 2; omega
      · show n < _; omega
    · refine int_at n 2 w h (Lib.hid (by unfold sz; rw [if_neg h1, if_neg h2])) (by omega) (UInt8.ofNat (n / 16777216)) [UInt8.ofNat (n / 65536), UInt8.ofNat (n / 256), UInt8.ofNat n] (wideL4 n) ?_ ?_ ?_
      · show _ < 64; rw [ofNat_toNat]; omega
      · show intL n = _; unfold intL; rw [if_neg h1, if_neg h2, ofNat_toNat]; congr 2; omega
      · show n < _; omega
theorem int_no (n : Int) (w : World) (h : n < 0 ∨ 1073741823 < n) : Calls Try.prog 16 #[.int .i64 n] w fun e w' => e = .returned (.tuple #[.slice none 0 0, .int .i64 1]) ∧ w = w' := by
  rcases h with h | h
  · go_enter Try.func16, Try.ntmps16
    go_wp2_with fail
    go_ret2
    exact ⟨rfl, rfl⟩
  · go_enter Try.func16, Try.ntmps16
    go_wp2_with fail
    go_ret2
    exact ⟨rfl, rfl⟩

set_option maxRecDepth 100000 in
set_option maxHeartbeats 2000000 in
theorem takeInt_any (A : Option Addr) (n c : Nat) (l : List UInt8) (w : World) (h : Sl w A n c (bv l)) :
    Calls Try.prog 17 #[.slice A n c] w fun e w' => e = .returned (.tuple #[.int .i64 ((takeI l).1 : Nat), .int .i64 ((takeI l).2.1 : Nat), .int .i64 ((takeI l).2.2 : Nat)]) ∧ w = w' := by
  have htop := h.top; have hcap := h.cap; unfold maxLen at htop
  have Hl := Lib.hid (show l.length = n by have := h.len; rwa [bv_length] at this)
  rcases l with _ | ⟨b, r⟩
  · obtain rfl : n = 0 := by have := Hl.out; simpa using this.symm
    go_enter Try.func17, Try.ntmps17
    go_wp2_with fail
    go_ret3
    exact ⟨rfl, rfl⟩
  · have hb := b.toNat_lt
    have hn1 : 1 ≤ n := by have := Hl.out; simp at this; omega
    obtain ⟨ad, hl, rfl, hc⟩ := h.byte (k := 0) (by omega)
    have hc0 : w.cell? ad = some (.int .u8 (b.toNat : Int)) := hc
    have p0 : (n == 0) = false := by simp; omega
    have p1 : ((n : Int) == 0) = false := by simp; omega
    have p2 : 0 < (n : Int) := by omega
    by_cases h3 : b.toNat / 64 = 3
    · have q : ((b.toNat : Int)) / 64 = 3 := by omega
      have HT := Lib.hid (show takeI (b :: r) = (0, 0, 11) by unfold takeI; dsimp only; rw [if_pos h3])
      clear h3
      go_enter Try.func17, Try.ntmps17
      go_wp2_with fail
      go_ret3
      rw [HT.out]; exact ⟨rfl, rfl⟩
    · have hk : b.toNat / 64 = 0 ∨ b.toNat / 64 = 1 ∨ b.toNat / 64 = 2 := by omega
      clear h3
      rcases hk with hk | hk | hk
      · have q : ((b.toNat : Int)) / 64 = 0 := by omega
        have hok := takeWide_ok (some ad) n c (b :: r) 1 w h (by omega) (by omega) (by omega)
        have hu := unL_lt ((b :: r).take 1)
        rw [List.length_take, Nat.min_eq_left (by rw [Hl.out]; omega)] at hu
        obtain ⟨x, hx⟩ : ∃ x, unL ((b :: r).take 1) = x := ⟨_, rfl⟩
        have HT := Lib.hid (show takeI (b :: r) = if sz (x % 64) ≠ 0 then (0, 0, 11) else (x % 64, 1, 0) by
          unfold takeI; dsimp only; rw [if_neg (by omega), hk, if_neg (by rw [Hl.out]; omega), ← hx])
        rw [hx] at hok hu
        obtain ⟨y, hy⟩ : ∃ y, x % 64 = y := ⟨_, rfl⟩
        have ha : bits .and .i64 (x : Int) 63 = (y : Int) := by
          have := i64_and_nat x 63 (by omega) (by omega)
          rw [show ((((63 : Nat)) : Int)) = 63 from rfl] at this
          rw [this, ← hy, show (63 : Nat) = 2 ^ 6 - 1 by rfl, Nat.and_two_pow_sub_one_eq_mod]
        have i0 : (x : Int) < 256 := by omega
        rw [hy] at HT
        have HX := Lib.hid hx; have HK := Lib.hid hok; clear hx hok hu hk hy
        obtain ⟨z, hz⟩ : ∃ z, sz y = z := ⟨_, rfl⟩
        have hsz := fun W => size_any y W
        rw [hz] at hsz HT
        have HS := Lib.hid hsz; clear hsz hz
        by_cases hzk : z = 0
        · have t1 : (z != 0) = false := by rw [hzk]; rfl
          have t2 : ((z : Int) != 0) = false := by rw [hzk]; rfl
          have HT2 := Lib.hid (show takeI (b :: r) = (y, 1, 0) by rw [HT.out, if_neg (by simp [hzk])])
          clear hzk HT
          go_enter Try.func17, Try.ntmps17
          go_wp2_with fail
          refine HK.out.mono ?_; rintro e w' ⟨rfl, rfl⟩
          go_wp2_with fail
          refine (HS.out _).mono ?_; rintro e w' ⟨rfl, rfl⟩
          go_wp2_with fail
          go_ret3
          rw [HT2.out]; exact ⟨rfl, rfl⟩
        · have t1 : (z != 0) = true := by simpa using hzk
          have t2 : ((z : Int) != 0) = true := by rw [bne_iff_ne]; omega
          have HT2 := Lib.hid (show takeI (b :: r) = (0, 0, 11) by rw [HT.out, if_pos hzk])
          clear hzk HT
          go_enter Try.func17, Try.ntmps17
          go_wp2_with fail
          refine HK.out.mono ?_; rintro e w' ⟨rfl, rfl⟩
          go_wp2_with fail
          refine (HS.out _).mono ?_; rintro e w' ⟨rfl, rfl⟩
          go_wp2_with fail
          go_ret3
          rw [HT2.out]; exact ⟨rfl, rfl⟩
      · have q : ((b.toNat : Int)) / 64 = 1 := by omega
        by_cases hs : n < 2
        · have HT := Lib.hid (show takeI (b :: r) = (0, 0, 10) by unfold takeI; dsimp only; rw [if_neg (by omega), hk, if_pos (by rw [Hl.out]; omega)])
          clear hk
          have hsh := fun W => takeWide_short (some ad) n c 2 W (by omega) (by omega) (by omega)
          have HS := Lib.hid hsh; clear hsh
          go_enter Try.func17, Try.ntmps17
          go_wp2_with (go_at_call 19; refine (HS.out _).mono ?_; rintro e w' ⟨rfl, rfl⟩)
          go_ret3
          rw [HT.out]; exact ⟨rfl, rfl⟩
        · have hok := takeWide_ok (some ad) n c (b :: r) 2 w h (by omega) (by omega) (by omega)
          have hu := unL_lt ((b :: r).take 2)
          rw [List.length_take, Nat.min_eq_left (by rw [Hl.out]; omega)] at hu
          obtain ⟨x, hx⟩ : ∃ x, unL ((b :: r).take 2) = x := ⟨_, rfl⟩
          have HT := Lib.hid (show takeI (b :: r) = if sz (x % 16384) ≠ 1 then (0, 0, 11) else (x % 16384, 2, 0) by
            unfold takeI; dsimp only; rw [if_neg (by omega), hk, if_neg (by rw [Hl.out]; omega), ← hx])
          rw [hx] at hok hu
          obtain ⟨y, hy⟩ : ∃ y, x % 16384 = y := ⟨_, rfl⟩
          have ha : bits .and .i64 (x : Int) 16383 = (y : Int) := by
            have := i64_and_nat x 16383 (by omega) (by omega)
            rw [show ((((16383 : Nat)) : Int)) = 16383 from rfl] at this
            rw [this, ← hy, show (16383 : Nat) = 2 ^ 14 - 1 by rfl, Nat.and_two_pow_sub_one_eq_mod]
          have i0 : (x : Int) < 65536 := by omega
          rw [hy] at HT
          have HX := Lib.hid hx; have HK := Lib.hid hok; clear hx hok hu hk hy
          obtain ⟨z, hz⟩ : ∃ z, sz y = z := ⟨_, rfl⟩
          have hsz := fun W => size_any y W
          rw [hz] at hsz HT
          have HS := Lib.hid hsz; clear hsz hz
          by_cases hzk : z = 1
          · have t1 : (z != 1) = false := by rw [hzk]; rfl
            have t2 : ((z : Int) != 1) = false := by rw [hzk]; rfl
            have HT2 := Lib.hid (show takeI (b :: r) = (y, 2, 0) by rw [HT.out, if_neg (by simp [hzk])])
            clear hzk HT
            go_enter Try.func17, Try.ntmps17
            go_wp2_with fail
            refine HK.out.mono ?_; rintro e w' ⟨rfl, rfl⟩
            go_wp2_with fail
            refine (HS.out _).mono ?_; rintro e w' ⟨rfl, rfl⟩
            go_wp2_with fail
            go_ret3
            rw [HT2.out]; exact ⟨rfl, rfl⟩
          · have t1 : (z != 1) = true := by simpa using hzk
            have t2 : ((z : Int) != 1) = true := by rw [bne_iff_ne]; omega
            have HT2 := Lib.hid (show takeI (b :: r) = (0, 0, 11) by rw [HT.out, if_pos hzk])
            clear hzk HT
            go_enter Try.func17, Try.ntmps17
            go_wp2_with fail
            refine HK.out.mono ?_; rintro e w' ⟨rfl, rfl⟩
            go_wp2_with fail
            refine (HS.out _).mono ?_; rintro e w' ⟨rfl, rfl⟩
            go_wp2_with fail
            go_ret3
            rw [HT2.out]; exact ⟨rfl, rfl⟩
      · have q : ((b.toNat : Int)) / 64 = 2 := by omega
        by_cases hs : n < 4
        · have HT := Lib.hid (show takeI (b :: r) = (0, 0, 10) by unfold takeI; dsimp only; rw [if_neg (by omega), hk, if_pos (by rw [Hl.out]; omega)])
          clear hk
          have hsh := fun W => takeWide_short (some ad) n c 4 W (by omega) (by omega) (by omega)
          have HS := Lib.hid hsh; clear hsh
          go_enter Try.func17, Try.ntmps17
          go_wp2_with (go_at_call 19; refine (HS.out _).mono ?_; rintro e w' ⟨rfl, rfl⟩)
          go_ret3
          rw [HT.out]; exact ⟨rfl, rfl⟩
        · have hok := takeWide_ok (some ad) n c (b :: r) 4 w h (by omega) (by omega) (by omega)
          have hu := unL_lt ((b :: r).take 4)
          rw [List.length_take, Nat.min_eq_left (by rw [Hl.out]; omega)] at hu
          obtain ⟨x, hx⟩ : ∃ x, unL ((b :: r).take 4) = x := ⟨_, rfl⟩
          have HT := Lib.hid (show takeI (b :: r) = if sz (x % 1073741824) ≠ 2 then (0, 0, 11) else (x % 1073741824, 4, 0) by
            unfold takeI; dsimp only; rw [if_neg (by omega), hk, if_neg (by rw [Hl.out]; omega), ← hx])
          rw [hx] at hok hu
          obtain ⟨y, hy⟩ : ∃ y, x % 1073741824 = y := ⟨_, rfl⟩
          have ha : bits .and .i64 (x : Int) 1073741823 = (y : Int) := by
            have := i64_and_nat x 1073741823 (by omega) (by omega)
            rw [show ((((1073741823 : Nat)) : Int)) = 1073741823 from rfl] at this
            rw [this, ← hy, show (1073741823 : Nat) = 2 ^ 30 - 1 by rfl, Nat.and_two_pow_sub_one_eq_mod]
          have i0 : (x : Int) < 4294967296 := by omega
          rw [hy] at HT
          have HX := Lib.hid hx; have HK := Lib.hid hok; clear hx hok hu hk hy
          obtain ⟨z, hz⟩ : ∃ z, sz y = z := ⟨_, rfl⟩
          have hsz := fun W => size_any y W
          rw [hz] at hsz HT
          have HS := Lib.hid hsz; clear hsz hz
          by_cases hzk : z = 2
          · have t1 : (z != 2) = false := by rw [hzk]; rfl
            have t2 : ((z : Int) != 2) = false := by rw [hzk]; rfl
            have HT2 := Lib.hid (show takeI (b :: r) = (y, 4, 0) by rw [HT.out, if_neg (by simp [hzk])])
            clear hzk HT
            go_enter Try.func17, Try.ntmps17
            go_wp2_with fail
            refine HK.out.mono ?_; rintro e w' ⟨rfl, rfl⟩
            go_wp2_with fail
            refine (HS.out _).mono ?_; rintro e w' ⟨rfl, rfl⟩
            go_wp2_with fail
            go_ret3
            rw [HT2.out]; exact ⟨rfl, rfl⟩
          · have t1 : (z != 2) = true := by simpa using hzk
            have t2 : ((z : Int) != 2) = true := by rw [bne_iff_ne]; omega
            have HT2 := Lib.hid (show takeI (b :: r) = (0, 0, 11) by rw [HT.out, if_pos hzk])
            clear hzk HT
            go_enter Try.func17, Try.ntmps17
            go_wp2_with fail
            refine HK.out.mono ?_; rintro e w' ⟨rfl, rfl⟩
            go_wp2_with fail
            refine (HS.out _).mono ?_; rintro e w' ⟨rfl, rfl⟩
            go_wp2_with fail
            go_ret3
            rw [HT2.out]; exact ⟨rfl, rfl⟩
end Go.Proofs.Ytjebmmmjjiomfaa
