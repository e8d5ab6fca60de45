/- The walk of the law WireWrites, where lists are small. -/
import Derived.Test.YtjebmmmjjiomfaaRefJoin
namespace Go.Proofs.Ytjebmmmjjiomfaa
open Go.RowKit

/-- what is answered: bytes, and an error -/
def Ans (w : World) (l : List UInt8) (E : Int) (e : Ending) (w' : World) : Prop :=
  ∃ A c, e = .returned (.tuple #[.slice A l.length c, .int .i64 E]) ∧ Sl w' A l.length c (bv l) ∧ Below w.heap.size w w'
theorem Ans.of {w w' : World} {l : List UInt8} {e : Ending} {n : Nat} (hl : l.length = n) (h : ∃ A c, e = .returned (.tuple #[.slice A n c, .int .i64 0]) ∧ Ow w' w.heap.size 5 1 A n c (bv l) ∧ Below w.heap.size w w') : Ans w l 0 e w' := by
  subst hl
  obtain ⟨A, c, h1, h2, h3⟩ := h
  exact ⟨A, c, h1, h2.sl, h3⟩
theorem Ans.no {w w' : World} {e : Ending} (h : e = .returned (.tuple #[.slice none 0 0, .int .i64 1]) ∧ w = w') : Ans w [] 1 e w' := by
  obtain ⟨rfl, rfl⟩ := h
  exact ⟨none, 0, rfl, Sl.none w, Below.refl _ w⟩
theorem int_two (n : Int) : ∃ l E, (∀ w, Calls Try.prog 16 #[.int .i64 n] w (Ans w l E)) ∧ (∀ w, Calls Try.prog 24 #[.int .i64 n] w (Ans w l E)) := by
  by_cases h : n < 0 ∨ 1073741823 < n
  · exact ⟨[], 1, fun w => (int_no n w h).mono fun _ _ q => Ans.no q, fun w => (rint_no n w h).mono fun _ _ q => Ans.no q⟩
  · obtain ⟨m, rfl⟩ : ∃ m : Nat, n = m := ⟨n.toNat, by omega⟩
    exact ⟨intL m, 0, fun w => (int_ok m w (by omega)).mono fun _ _ q => Ans.of rfl q, fun w => (rint_ok m w (by omega)).mono fun _ _ q => Ans.of rfl q⟩
theorem wide_two (u : Int) (k : Int) (hu : 0 ≤ u ∧ u ≤ 18446744073709551615) : ∃ l E, (∀ w, Calls Try.prog 18 #[.int .u64 u, .int .i64 k] w (Ans w l E)) ∧ (∀ w, Calls Try.prog 25 #[.int .u64 u, .int .i64 k] w (Ans w l E)) := by
  obtain ⟨n, rfl⟩ : ∃ n : Nat, u = n := ⟨u.toNat, by omega⟩
  have hn : n < 18446744073709551616 := by omega
  by_cases h1 : k < 1
  · exact ⟨[], 1, fun w => (wide_no n k w hn (.inl h1)).mono fun _ _ q => Ans.no q, fun w => (rwide_no n k w (.inl h1)).mono fun _ _ q => Ans.no q⟩
  by_cases h8 : 8 < k
  · exact ⟨[], 1, fun w => (wide_no n k w hn (.inr (.inl h8))).mono fun _ _ q => Ans.no q, fun w => (rwide_no n k w (.inr (.inl h8))).mono fun _ _ q => Ans.no q⟩
  obtain ⟨m, rfl⟩ : ∃ m : Nat, k = m := ⟨k.toNat, by omega⟩
  by_cases h3 : n < 2 ^ (8 * m)
  · exact ⟨wideL n m, 0, fun w => (wide_ok n m w hn (by omega) (by omega) h3).mono fun _ _ q => Ans.of (wide_len n m) q, fun w => (rwide_ok n m w (by omega) (by omega) h3).mono fun _ _ q => Ans.of (wide_len n m) q⟩
  · have h4 : 2 ^ (8 * m) ≤ n := by omega
    have hm : m < 8 := by
      rcases Nat.lt_or_ge m 8 with q | q
      · exact q
      · obtain rfl : m = 8 := by omega
        exact absurd hn (by have : (2 : Nat) ^ (8 * 8) = 18446744073709551616 := by decide
                            omega)
    exact ⟨[], 1, fun w => (wide_no n m w hn (.inr (.inr (by rw [Int.toNat_natCast]; exact h4)))).mono fun _ _ q => Ans.no q, fun w => (rwide_no n m w (.inr (.inr ⟨by omega, by omega, by rw [Int.toNat_natCast]; exact h4⟩))).mono fun _ _ q => Ans.no q⟩
theorem join_two (A : Option Addr) (n c : Nat) (xs : List Value) (bss : List (List UInt8)) (h1 : ∀ l ∈ bss, l.length < 1073741824) (h2 : (jl bss).length < 1073741824) :
    ∃ l E, (∀ w, Sl w A n c xs → BL w xs bss → Calls Try.prog 21 #[.slice A n c] w (Ans w l E)) ∧ (∀ w, Sl w A n c xs → BL w xs bss → Calls Try.prog 26 #[.slice A n c] w (Ans w l E)) :=
  ⟨bytesL (jl bss), 0, fun w h hb => (join_ok A n c xs bss w h hb h1 h2).mono fun _ _ q => Ans.of rfl q, fun w h hb => (rjoin_ok A n c xs bss w h hb h1 h2).mono fun _ _ q => Ans.of rfl q⟩
theorem bytes_two (A : Option Addr) (n c : Nat) (l : List UInt8) (hn : n < 1073741824) :
    ∃ x E, (∀ w, Sl w A n c (bv l) → Calls Try.prog 29 #[.slice A n c] w (Ans w x E)) ∧ (∀ w, Sl w A n c (bv l) → Calls Try.prog 30 #[.slice A n c] w (Ans w x E)) :=
  ⟨bytesL l, 0, fun w h => (bytes_ok A n c l w h hn).mono fun _ _ q => Ans.of rfl q, fun w h => (rbytes_ok A n c l w h hn).mono fun _ _ q => Ans.of rfl q⟩
theorem opt_two (A : Option Addr) (n c : Nat) (l : List UInt8) (is : Bool) (hn : n < 1073741824) :
    ∃ x E, (∀ w, Sl w A n c (bv l) → Calls Try.prog 27 #[.slice A n c, .bool is] w (Ans w x E)) ∧ (∀ w, Sl w A n c (bv l) → Calls Try.prog 28 #[.slice A n c, .bool is] w (Ans w x E)) := by
  cases is
  · exact ⟨[0], 0, fun w _ => (opt_none A n c w).mono fun _ _ q => Ans.of rfl q, fun w _ => (ropt_none A n c w).mono fun _ _ q => Ans.of rfl q⟩
  · exact ⟨1 :: bytesL l, 0, fun w h => (opt_some A n c l w h hn).mono fun _ _ q => Ans.of rfl q, fun w h => (ropt_some A n c l w h hn).mono fun _ _ q => Ans.of rfl q⟩
set_option maxRecDepth 100000 in
set_option maxHeartbeats 8000000 in
theorem writesWalk (n : Int) (u : Int) (wide : Int) (A : Option Addr) (k c : Nat) (xs : List Value) (bss : List (List UInt8)) (is : Bool) (w : World) (_ : -9223372036854775808 ≤ n ∧ n ≤ 9223372036854775807) (hu : 0 ≤ u ∧ u ≤ 18446744073709551615) (_ : -9223372036854775808 ≤ wide ∧ wide ≤ 9223372036854775807) (h : Sl w A k c xs) (hb : BL w xs bss) (ht : Hid (tot bss + k ≤ 1048576)) :
    Calls Try.prog 6 #[.int .i64 n, .int .u64 u, .int .i64 wide, .slice A k c, .bool is] w fun e w' => e = .returned (.bool true) ∧ Below w.heap.size w w' := by
  have HN := Lib.hid (show bss.length = k by rw [← hb.1]; exact h.len)
  have hsum := bl_tot hb
  rw [h.len] at hsum
  have HBR := Lib.hid (bigR_small xs (bl_sls hb (by have := ht.out; omega)) (by rw [hsum]; have := ht.out; omega))
  rw [hsum] at HBR
  have HSL := Lib.hid (bl_sls hb (by have := ht.out; omega))
  obtain ⟨l1, E1, f1, g1⟩ := int_two n
  obtain ⟨l2, E2, f2, g2⟩ := wide_two u wide hu
  have F1 := Lib.hid f1; have G1 := Lib.hid g1; have F2 := Lib.hid f2; have G2 := Lib.hid g2
  clear hsum f1 g1 f2 g2 hu
  go_enter Try.func6, Try.ntmps6
  go_wp2_with fail
  refine (lead w).mono ?_; rintro e w1 ⟨rfl, hB1⟩
  have h1 := h.below hB1; have b1 := hb.keep hB1
  clear h hb
  go_wp2_with fail
  refine (big_any A k c xs w1 h1 HSL.out).mono ?_; rintro e w' ⟨rfl, rfl⟩
  rw [HBR.out]
  by_cases hbig : 100000 < tot bss + k
  · rw [decide_eq_true (show (100000 : Int) < ((tot bss + k : Nat) : Int) by omega)]
    clear hbig
    go_wp2_with fail
    go_ret
    exact ⟨rfl, hB1⟩
  rw [decide_eq_false (show ¬ (100000 : Int) < ((tot bss + k : Nat) : Int) by omega)]
  have HT := Lib.hid (show tot bss + bss.length ≤ 100000 by rw [HN.out]; omega)
  clear hbig HBR HSL ht
  have hm1 : ∀ x ∈ bss, x.length < 1073741824 := fun x hx => by have := mem_tot hx; have := HT.out; omega
  obtain ⟨l3, E3, f3, g3⟩ := join_two A k c xs bss hm1 (by have := jl_small HT.out; omega)
  have F3 := Lib.hid f3; have G3 := Lib.hid g3
  have HM := Lib.hid hm1
  clear f3 g3 hm1
  go_wp2_with fail
  refine (F1.out w1).mono ?_; rintro e w2 ⟨A2, c2, rfl, s2, hB2⟩
  have h2 := h1.below hB2; have b2 := b1.keep hB2; have hBB2 := hB1.trans (hB2.mono hB1.size)
  clear h1 b1 hB2
  go_wp2_with fail
  refine (G1.out w2).mono ?_; rintro e w3 ⟨A3, c3, rfl, s3, hB3⟩
  have h3 := h2.below hB3; have b3 := b2.keep hB3; have hBB3 := hBB2.trans (hB3.mono hBB2.size); have s2_3 := s2.below hB3
  clear h2 b2 hB3 hBB2 s2
  go_wp2_with fail
  refine (F2.out w3).mono ?_; rintro e w4 ⟨A4, c4, rfl, s4, hB4⟩
  have h4 := h3.below hB4; have b4 := b3.keep hB4; have hBB4 := hBB3.trans (hB4.mono hBB3.size); have s2_4 := s2_3.below hB4; have s3_4 := s3.below hB4
  clear h3 b3 hB4 hBB3 s2_3 s3
  go_wp2_with fail
  refine (G2.out w4).mono ?_; rintro e w5 ⟨A5, c5, rfl, s5, hB5⟩
  have h5 := h4.below hB5; have b5 := b4.keep hB5; have hBB5 := hBB4.trans (hB5.mono hBB4.size); have s2_5 := s2_4.below hB5; have s3_5 := s3_4.below hB5; have s4_5 := s4.below hB5
  clear h4 b4 hB5 hBB4 s2_4 s3_4 s4
  go_wp2_with fail
  refine (F3.out w5 h5 b5).mono ?_; rintro e w6 ⟨A6, c6, rfl, s6, hB6⟩
  have h6 := h5.below hB6; have b6 := b5.keep hB6; have hBB6 := hBB5.trans (hB6.mono hBB5.size); have s2_6 := s2_5.below hB6; have s3_6 := s3_5.below hB6; have s4_6 := s4_5.below hB6; have s5_6 := s5.below hB6
  clear h5 b5 hB6 hBB5 s2_5 s3_5 s4_5 s5
  go_wp2_with fail
  refine (G3.out w6 h6 b6).mono ?_; rintro e w7 ⟨A7, c7, rfl, s7, hB7⟩
  have h7 := h6.below hB7; have b7 := b6.keep hB7; have hBB7 := hBB6.trans (hB7.mono hBB6.size); have s2_7 := s2_6.below hB7; have s3_7 := s3_6.below hB7; have s4_7 := s4_6.below hB7; have s5_7 := s5_6.below hB7; have s6_7 := s6.below hB7
  clear h6 b6 hB7 hBB6 s2_6 s3_6 s4_6 s5_6 s6
  rcases Nat.eq_zero_or_pos k with hk | hk
  · subst hk
    have fs0 := Sl.none w7
    obtain ⟨l4, E4, f4, g4⟩ := opt_two none 0 0 [] is (by omega)
    obtain ⟨l5, E5, f5, g5⟩ := bytes_two none 0 0 [] (by omega)
    have F4 := Lib.hid f4; have G4 := Lib.hid g4; have F5 := Lib.hid f5; have G5 := Lib.hid g5
    clear f4 g4 f5 g5
    go_wp2_with fail
    refine (F4.out w7 fs0).mono ?_; rintro e w8 ⟨A8, c8, rfl, s8, hB8⟩
    have h8 := h7.below hB8; have b8 := b7.keep hB8; have hBB8 := hBB7.trans (hB8.mono hBB7.size); have fs_8 := fs0.below hB8; have s2_8 := s2_7.below hB8; have s3_8 := s3_7.below hB8; have s4_8 := s4_7.below hB8; have s5_8 := s5_7.below hB8; have s6_8 := s6_7.below hB8; have s7_8 := s7.below hB8
    clear h7 b7 hB8 hBB7 fs0 s2_7 s3_7 s4_7 s5_7 s6_7 s7
    go_wp2_with fail
    refine (G4.out w8 fs_8).mono ?_; rintro e w9 ⟨A9, c9, rfl, s9, hB9⟩
    have h9 := h8.below hB9; have b9 := b8.keep hB9; have hBB9 := hBB8.trans (hB9.mono hBB8.size); have fs_9 := fs_8.below hB9; have s2_9 := s2_8.below hB9; have s3_9 := s3_8.below hB9; have s4_9 := s4_8.below hB9; have s5_9 := s5_8.below hB9; have s6_9 := s6_8.below hB9; have s7_9 := s7_8.below hB9; have s8_9 := s8.below hB9
    clear h8 b8 hB9 hBB8 fs_8 s2_8 s3_8 s4_8 s5_8 s6_8 s7_8 s8
    go_wp2_with fail
    refine (F5.out w9 fs_9).mono ?_; rintro e w10 ⟨A10, c10, rfl, s10, hB10⟩
    have h10 := h9.below hB10; have b10 := b9.keep hB10; have hBB10 := hBB9.trans (hB10.mono hBB9.size); have fs_10 := fs_9.below hB10; have s2_10 := s2_9.below hB10; have s3_10 := s3_9.below hB10; have s4_10 := s4_9.below hB10; have s5_10 := s5_9.below hB10; have s6_10 := s6_9.below hB10; have s7_10 := s7_9.below hB10; have s8_10 := s8_9.below hB10; have s9_10 := s9.below hB10
    clear h9 b9 hB10 hBB9 fs_9 s2_9 s3_9 s4_9 s5_9 s6_9 s7_9 s8_9 s9
    go_wp2_with fail
    refine (G5.out w10 fs_10).mono ?_; rintro e w11 ⟨A11, c11, rfl, s11, hB11⟩
    have h11 := h10.below hB11; have b11 := b10.keep hB11; have hBB11 := hBB10.trans (hB11.mono hBB10.size); have fs_11 := fs_10.below hB11; have s2_11 := s2_10.below hB11; have s3_11 := s3_10.below hB11; have s4_11 := s4_10.below hB11; have s5_11 := s5_10.below hB11; have s6_11 := s6_10.below hB11; have s7_11 := s7_10.below hB11; have s8_11 := s8_10.below hB11; have s9_11 := s9_10.below hB11; have s10_11 := s10.below hB11
    clear h10 b10 hB11 hBB10 fs_10 s2_10 s3_10 s4_10 s5_10 s6_10 s7_10 s8_10 s9_10 s10
    have q1 := s2_11.str (P := Try.prog) Try.underlying23 Try.underlying5 Try.underlying9; have q2 := s3_11.str (P := Try.prog) Try.underlying23 Try.underlying5 Try.underlying9; have q3 := s4_11.str (P := Try.prog) Try.underlying23 Try.underlying5 Try.underlying9; have q4 := s5_11.str (P := Try.prog) Try.underlying23 Try.underlying5 Try.underlying9; have q5 := s6_11.str (P := Try.prog) Try.underlying23 Try.underlying5 Try.underlying9; have q6 := s7_11.str (P := Try.prog) Try.underlying23 Try.underlying5 Try.underlying9; have q7 := s8_11.str (P := Try.prog) Try.underlying23 Try.underlying5 Try.underlying9; have q8 := s9_11.str (P := Try.prog) Try.underlying23 Try.underlying5 Try.underlying9; have q9 := s10_11.str (P := Try.prog) Try.underlying23 Try.underlying5 Try.underlying9; have q10 := s11.str (P := Try.prog) Try.underlying23 Try.underlying5 Try.underlying9
    go_wp2_with fail
    go_ret
    exact ⟨rfl, hBB11⟩
  · obtain ⟨ad, v, rfl, hx, hc⟩ := h7.at_ hk
    obtain ⟨a, m, cc, l, rfl, hl, fs0⟩ := b7.2 0 v hx
    have hmm : m < 1073741824 := by
      have h1 := fs0.len; rw [bv_length] at h1
      rw [← h1]; exact HM.out l (List.mem_of_getElem? hl)
    obtain ⟨l4, E4, f4, g4⟩ := opt_two a m cc l is hmm
    obtain ⟨l5, E5, f5, g5⟩ := bytes_two a m cc l hmm
    have F4 := Lib.hid f4; have G4 := Lib.hid g4; have F5 := Lib.hid f5; have G5 := Lib.hid g5
    have hk1 : decide ((0 : Int) < (k : Int)) = true := decide_eq_true (by omega)
    have hk2 : (0 : Int) < (k : Int) := by omega
    have hc0 : w7.cell? ad = some (.slice a m cc) := by have e : ad.add (0 * 1) = ad := (by unfold Addr.add; simp); first | exact hc | (rw [← hc]; congr 1; exact e.symm)
    clear f4 g4 f5 g5 hx hl hmm
    go_wp2_with fail
    refine (F4.out w7 fs0).mono ?_; rintro e w8 ⟨A8, c8, rfl, s8, hB8⟩
    have h8 := h7.below hB8; have b8 := b7.keep hB8; have hBB8 := hBB7.trans (hB8.mono hBB7.size); have fs_8 := fs0.below hB8; have s2_8 := s2_7.below hB8; have s3_8 := s3_7.below hB8; have s4_8 := s4_7.below hB8; have s5_8 := s5_7.below hB8; have s6_8 := s6_7.below hB8; have s7_8 := s7.below hB8
    clear h7 b7 hB8 hBB7 fs0 s2_7 s3_7 s4_7 s5_7 s6_7 s7
    go_wp2_with fail
    refine (G4.out w8 fs_8).mono ?_; rintro e w9 ⟨A9, c9, rfl, s9, hB9⟩
    have h9 := h8.below hB9; have b9 := b8.keep hB9; have hBB9 := hBB8.trans (hB9.mono hBB8.size); have fs_9 := fs_8.below hB9; have s2_9 := s2_8.below hB9; have s3_9 := s3_8.below hB9; have s4_9 := s4_8.below hB9; have s5_9 := s5_8.below hB9; have s6_9 := s6_8.below hB9; have s7_9 := s7_8.below hB9; have s8_9 := s8.below hB9
    clear h8 b8 hB9 hBB8 fs_8 s2_8 s3_8 s4_8 s5_8 s6_8 s7_8 s8
    go_wp2_with fail
    refine (F5.out w9 fs_9).mono ?_; rintro e w10 ⟨A10, c10, rfl, s10, hB10⟩
    have h10 := h9.below hB10; have b10 := b9.keep hB10; have hBB10 := hBB9.trans (hB10.mono hBB9.size); have fs_10 := fs_9.below hB10; have s2_10 := s2_9.below hB10; have s3_10 := s3_9.below hB10; have s4_10 := s4_9.below hB10; have s5_10 := s5_9.below hB10; have s6_10 := s6_9.below hB10; have s7_10 := s7_9.below hB10; have s8_10 := s8_9.below hB10; have s9_10 := s9.below hB10
    clear h9 b9 hB10 hBB9 fs_9 s2_9 s3_9 s4_9 s5_9 s6_9 s7_9 s8_9 s9
    go_wp2_with fail
    refine (G5.out w10 fs_10).mono ?_; rintro e w11 ⟨A11, c11, rfl, s11, hB11⟩
    have h11 := h10.below hB11; have b11 := b10.keep hB11; have hBB11 := hBB10.trans (hB11.mono hBB10.size); have fs_11 := fs_10.below hB11; have s2_11 := s2_10.below hB11; have s3_11 := s3_10.below hB11; have s4_11 := s4_10.below hB11; have s5_11 := s5_10.below hB11; have s6_11 := s6_10.below hB11; have s7_11 := s7_10.below hB11; have s8_11 := s8_10.below hB11; have s9_11 := s9_10.below hB11; have s10_11 := s10.below hB11
    clear h10 b10 hB11 hBB10 fs_10 s2_10 s3_10 s4_10 s5_10 s6_10 s7_10 s8_10 s9_10 s10
    have q1 := s2_11.str (P := Try.prog) Try.underlying23 Try.underlying5 Try.underlying9; have q2 := s3_11.str (P := Try.prog) Try.underlying23 Try.underlying5 Try.underlying9; have q3 := s4_11.str (P := Try.prog) Try.underlying23 Try.underlying5 Try.underlying9; have q4 := s5_11.str (P := Try.prog) Try.underlying23 Try.underlying5 Try.underlying9; have q5 := s6_11.str (P := Try.prog) Try.underlying23 Try.underlying5 Try.underlying9; have q6 := s7_11.str (P := Try.prog) Try.underlying23 Try.underlying5 Try.underlying9; have q7 := s8_11.str (P := Try.prog) Try.underlying23 Try.underlying5 Try.underlying9; have q8 := s9_11.str (P := Try.prog) Try.underlying23 Try.underlying5 Try.underlying9; have q9 := s10_11.str (P := Try.prog) Try.underlying23 Try.underlying5 Try.underlying9; have q10 := s11.str (P := Try.prog) Try.underlying23 Try.underlying5 Try.underlying9
    go_wp2_with fail
    go_ret
    exact ⟨rfl, hBB11⟩
end Go.Proofs.Ytjebmmmjjiomfaa
