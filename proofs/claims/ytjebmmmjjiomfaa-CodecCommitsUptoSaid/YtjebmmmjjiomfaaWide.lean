/- The walks of wire.Wide and wire.TakeWide. -/
import Derived.Test.YtjebmmmjjiomfaaBase2
import Derived.Test.YtjebmmmjjiomfaaPlain
import Derived.Test.YtjebmmmjjiomfaaLen
namespace Go.Proofs.Ytjebmmmjjiomfaa
open Go.RowKit

theorem E23 : Elem Try.prog 23 5 (.int .u8 0) 1 1 := ⟨Try.underlying23, by kernel_rfl, rfl, by omega⟩
theorem bitLenAux_lt : ∀ (f x : Nat), x < 2 ^ f → x < 2 ^ Lib.bitLenAux f x
  | 0, x, h => by simpa [Lib.bitLenAux] using h
  | f + 1, x, h => by
    unfold Lib.bitLenAux
    split
    · rename_i h0; subst h0; exact Nat.one_pos
    · have := bitLenAux_lt f (x / 2) (by rw [Nat.pow_succ] at h; omega)
      rw [Nat.add_comm 1, Nat.pow_succ]; omega
theorem bitLen_iff (n k : Nat) (hn : n < 2 ^ 64) (hk : k ≤ 64) : Lib.bitLen n ≤ k ↔ n < 2 ^ k :=
  ⟨fun h => Nat.lt_of_lt_of_le (bitLenAux_lt 64 n hn) (Nat.pow_le_pow_right (by omega) h), fun h => Lib.bitLen_le n k hk h⟩

theorem one_byte (n s : Nat) : [Value.int .u8 ((n : Int) / 2 ^ s % 256)] = bv [UInt8.ofNat (n / 2 ^ s)] := by simp [bv]
theorem len64_nat (n : Nat) (w : World) (h : n < 18446744073709551616) :
    Calls Try.prog 56 #[.int .u64 (n : Int)] w fun e w' => e = .returned (.int .i64 (Lib.bitLen n : Nat)) ∧ w = w' :=
  (len64 n w (by omega) (by omega)).mono fun e w' ⟨h1, h2⟩ => ⟨by rw [h1, Int.toNat_natCast], h2.symm⟩

set_option maxRecDepth 100000 in
set_option maxHeartbeats 1000000 in
theorem wide_ok (n k : Nat) (w : World) (hn : Hid (n < 18446744073709551616)) (h1 : 1 ≤ k) (h8 : k ≤ 8) (hlt : Hid (n < 2 ^ (8 * k))) :
    Calls Try.prog 18 #[.int .u64 (n : Int), .int .i64 (k : Int)] w fun e w' => ∃ A c, e = .returned (.tuple #[.slice A k c, .int .i64 0]) ∧ Ow w' w.heap.size 5 1 A k c (bv (wideL n k)) ∧ Below w.heap.size w w' := by
  obtain ⟨b, hb⟩ : ∃ b, Lib.bitLen n = b := ⟨_, rfl⟩
  have hbl : b ≤ 8 * k := by rw [← hb]; exact (bitLen_iff n (8 * k) hn.out (by omega)).2 hlt.out
  have hc := fun W => len64_nat n W hn.out
  simp only [hb] at hc
  have HC := Lib.hid hc; clear hc hb
  go_enter Try.func18, Try.ntmps18
  go_wp2_with (go_at_call 56; refine (HC.out _).mono ?_; rintro e w' ⟨rfl, rfl⟩)
  go_loopw [6, 7] (fun v i wr => ∃ (j : Nat) (A : Option Addr) (c : Nat), j ≤ k ∧ i = .int .i64 ((k : Int) - 1 - j) ∧ v = .slice A j c ∧ Ow wr w.heap.size 5 1 A j c (bv ((wideL n k).take j)) ∧ Below w.heap.size w wr) (fun _ i _ => (intOf i + 1).toNat)
  case atStart => exact ⟨0, none, 0, Nat.zero_le _, by simp, rfl, Ow.nil _ _ _ _, Below.refl _ _⟩
  case round =>
    obtain ⟨j, A, c, hj, rfl, rfl, hO, hB⟩ := hrel
    by_cases hlt2 : j < k
    · have i1 : 0 ≤ (k : Int) - 1 - j := by omega
      have HS := Lib.hid (wideL_snoc n k j hlt2)
      go_wp2_with (at_builtin; refine wpList_app (o := ⟨some 34, _, _, _, _, _⟩) E23 rfl rfl rfl (hO.alloc _) rfl (lies_new wr _ 5) rfl (by simp [Value.oneCell']) (by unfold maxLen; omega) (by omega) (by have := hB.size; simp; omega) ?_; intro A3 c3 w3 hO3 hG3 hB3)
      go_roundw
      case rel => exact ⟨j + 1, A3, c3, by omega, by first | go_num | (congr 1; omega), rfl, by rw [HS.out, bv_append, ← one_byte]; exact hO3, (hB.alloc hB.size _).trans hB3⟩
      case measure => simp [intOf]; omega
    · obtain rfl : j = k := by omega
      have HT := Lib.hid (show (wideL n j).take j = wideL n j from List.take_of_length_le (by simp))
      go_wp2_with fail
      go_ret2
      exact ⟨A, c, rfl, by rw [← HT.out]; exact hO, hB⟩
theorem wide_no (n : Nat) (k : Int) (w : World) (hn : Hid (n < 18446744073709551616)) (h : k < 1 ∨ 8 < k ∨ Hid (2 ^ (8 * k.toNat) ≤ n)) :
    Calls Try.prog 18 #[.int .u64 (n : Int), .int .i64 k] w fun e w' => e = .returned (.tuple #[.slice none 0 0, .int .i64 1]) ∧ w = w' := by
  by_cases h1 : k < 1
  · clear h
    go_enter Try.func18, Try.ntmps18
    go_wp2_with fail
    go_ret2
    exact ⟨rfl, rfl⟩
  · by_cases h8 : 8 < k
    · clear h
      go_enter Try.func18, Try.ntmps18
      go_wp2_with fail
      go_ret2
      exact ⟨rfl, rfl⟩
    · have h3 : Hid (2 ^ (8 * k.toNat) ≤ n) := by rcases h with h | h | h; · omega
                                                  · omega
                                                  · exact h
      clear h
      obtain ⟨b, hb⟩ : ∃ b, Lib.bitLen n = b := ⟨_, rfl⟩
      have hbl : 8 * k < (b : Int) := by
        rcases Nat.lt_or_ge (8 * k.toNat) b with h | h
        · omega
        · have := (bitLen_iff n (8 * k.toNat) hn.out (by omega)).1 (by omega)
          have := h3.out; omega
      have hc := fun W => len64_nat n W hn.out
      simp only [hb] at hc
      have HC := Lib.hid hc; clear hc hb h3
      have e1 : (8 * k) ≤ 64 := by omega
      go_enter Try.func18, Try.ntmps18
      go_wp2_with (go_at_call 56; refine (HC.out _).mono ?_; rintro e w' ⟨rfl, rfl⟩)
      go_ret2
      exact ⟨rfl, rfl⟩

theorem or_byte (u v : Nat) (hu : u < 72057594037927936) (hv : v < 256) : bits .or .u64 (IntKind.u64.wrap ((u : Int) * 256)) (v : Int) = ((u * 256 + v : Nat) : Int) := by
  rw [IntKind.wrap_u64, show ((u : Int) * 256) % 18446744073709551616 = ((u * 256 : Nat) : Int) by omega, bits_or_u64_nat _ _ (by omega) (by omega)]
  have := Nat.shiftLeft_add_eq_or_of_lt (i := 8) (b := v) (by omega) u
  rw [Nat.shiftLeft_eq] at this
  rw [show u * 256 = u * 2 ^ 8 by rfl, ← this]
set_option maxRecDepth 100000 in
set_option maxHeartbeats 1000000 in
theorem takeWide_ok (A : Option Addr) (n c : Nat) (l : List UInt8) (k : Nat) (w : World) (h : Sl w A n c (bv l)) (h1 : 1 ≤ k) (h8 : k ≤ 8) (hk : k ≤ n) :
    Calls Try.prog 19 #[.slice A n c, .int .i64 (k : Int)] w fun e w' => e = .returned (.tuple #[.int .u64 (unL (l.take k) : Nat), .int .i64 0]) ∧ w = w' := by
  have htop := h.top; have hcap := h.cap; unfold maxLen at htop
  have Hl := Lib.hid (show l.length = n by have := h.len; rwa [bv_length] at this)
  go_enter Try.func19, Try.ntmps19
  go_wp2_with fail
  go_loop [4, 24] (fun v i => ∃ j : Nat, j ≤ k ∧ i = .int .i64 (j : Int) ∧ v = .int .u64 (unL (l.take j) : Nat)) (fun _ i => k - (intOf i).toNat)
  case atStart => exact ⟨0, Nat.zero_le _, rfl, rfl⟩
  case round =>
    obtain ⟨j, hj, rfl, rfl⟩ := hrel
    by_cases hlt2 : j < k
    · obtain ⟨ad, hl, rfl, hc⟩ := h.byte (k := j) (by omega)
      have hs : unL (l.take (j + 1)) = unL (l.take j) * 256 + (l[j]'hl).toNat := by
        rw [List.take_succ_eq_append_getElem hl, unL_snoc]
      have hb := unL_lt (l.take j)
      rw [List.length_take, Nat.min_eq_left (by omega)] at hb
      have HB := Lib.hid hb; clear hb
      have HS := Lib.hid hs; clear hs
      obtain ⟨u, hu⟩ : ∃ u, unL (l.take j) = u := ⟨_, rfl⟩
      obtain ⟨v, hv⟩ : ∃ v, l[j]'hl = v := ⟨_, rfl⟩
      rw [hv] at hc HS
      rw [hu] at HB HS ⊢
      clear hu hv
      have hv2 := v.toNat_lt
      have hb2 : u < 72057594037927936 := Nat.lt_of_lt_of_le HB.out (Nat.pow_le_pow_right (n := 2) (by omega) (show 8 * j ≤ 56 by omega))
      have HOR := Lib.hid (or_byte u v.toNat hb2 hv2)
      clear hb2
      go_wp2_with fail
      rw [HOR.out]
      go_round
      case rel => exact ⟨j + 1, by omega, by go_num, by rw [HS.out]⟩
      case measure => simp [intOf]; omega
    · obtain rfl : j = k := by omega
      go_wp2_with fail
      go_ret2
      exact ⟨rfl, rfl⟩
theorem takeWide_arg (A : Option Addr) (n c : Nat) (k : Int) (w : World) (h : k < 1 ∨ 8 < k) :
    Calls Try.prog 19 #[.slice A n c, .int .i64 k] w fun e w' => e = .returned (.tuple #[.int .u64 0, .int .i64 1]) ∧ w = w' := by
  rcases h with h | h
  · go_enter Try.func19, Try.ntmps19
    go_wp2_with fail
    go_ret2
    exact ⟨rfl, rfl⟩
  · go_enter Try.func19, Try.ntmps19
    go_wp2_with fail
    go_ret2
    exact ⟨rfl, rfl⟩
theorem takeWide_short (A : Option Addr) (n c : Nat) (k : Int) (w : World) (h1 : 1 ≤ k) (h8 : k ≤ 8) (h : (n : Int) < k) :
    Calls Try.prog 19 #[.slice A n c, .int .i64 k] w fun e w' => e = .returned (.tuple #[.int .u64 0, .int .i64 10]) ∧ w = w' := by
  go_enter Try.func19, Try.ntmps19
  go_wp2_with fail
  go_ret2
  exact ⟨rfl, rfl⟩
end Go.Proofs.Ytjebmmmjjiomfaa
