/- The walk of the law PadFills. -/
import Derived.Test.YtejhphjilmpfkaaRef2
import Derived.Test.YtejhphjilmpfkaaPadBackWalk
namespace Go.Proofs.Ytejhphjilmpfkaa
open Go.RowKit

def padO (l : List UInt8) : List UInt8 := if l.length < 65536 then padL l else []
def padE (l : List UInt8) : Int := if l.length < 65536 then 0 else 2
def unpO (l : List UInt8) : List UInt8 := (unpadL l).getD []
def unpE (l : List UInt8) : Int := if (unpadL l).isSome then 0 else 11
def bkO (n : Int) : Int := if 0 ≤ n ∧ n < 65536 then (bk n.toNat : Nat) else 0
def bkE (n : Int) : Int := if n < 0 then 1 else if n < 65536 then 0 else 2
/-- bytes and an error in new memory, as told -/
def Gives (l : List UInt8) (x : Int) (w : World) (e : Ending) (w' : World) : Prop :=
  ∃ A' c', e = .returned (.tuple #[.slice A' l.length c', .int .i64 x]) ∧ Sl w' A' l.length c' (bv l) ∧ Below w.heap.size w w'

theorem pad_any (A : Option Addr) (n c : Nat) (l : List UInt8) (w : World) (h : Sl w A n c (bv l)) : Calls Try.prog 9 #[.slice A n c] w (Gives (padO l) (padE l) w) := by
  have hl := h.len; rw [bv_length] at hl
  by_cases hn : n < 65536
  · unfold padO padE; rw [hl, if_pos hn, if_pos hn]; exact pad_ok A n c l w h hn
  · unfold padO padE; rw [hl, if_neg hn, if_neg hn]
    exact (pad_no A n c w (by omega) (Nat.le_trans h.cap h.top)).mono fun e w' ⟨h1, h2⟩ => by subst h2; exact ⟨_, _, h1, Sl.none _, Below.refl _ _⟩
theorem rpad_any (A : Option Addr) (n c : Nat) (l : List UInt8) (w : World) (h : Sl w A n c (bv l)) : Calls Try.prog 10 #[.slice A n c] w (Gives (padO l) (padE l) w) := by
  have hl := h.len; rw [bv_length] at hl
  by_cases hn : n < 65536
  · unfold padO padE; rw [hl, if_pos hn, if_pos hn]; exact rpad_ok A n c l w h hn
  · unfold padO padE; rw [hl, if_neg hn, if_neg hn]
    exact (rpad_no A n c w (by omega) (Nat.le_trans h.cap h.top)).mono fun e w' ⟨h1, h2⟩ => by subst h2; exact ⟨_, _, h1, Sl.none _, Below.refl _ _⟩
theorem gives_unpad (l : List UInt8) (w : World) (e : Ending) (w' : World) (h : UnpadPost l w e w') : Gives (unpO l) (unpE l) w e w' := by
  obtain ⟨hb, h⟩ := unpad_of l w e w' h
  unfold unpO unpE
  cases hu : unpadL l with
  | none => rw [hu] at h; exact ⟨_, _, h, Sl.none _, hb⟩
  | some y => rw [hu] at h; obtain ⟨A', c', h1, h2⟩ := h; exact ⟨A', c', h1, h2, hb⟩
theorem unpad_any (A : Option Addr) (n c : Nat) (l : List UInt8) (w : World) (h : Sl w A n c (bv l)) : Calls Try.prog 11 #[.slice A n c] w (Gives (unpO l) (unpE l) w) :=
  (unpad_rel A n c l w h).mono fun e w' h => gives_unpad l w e w' h
theorem runpad_any (A : Option Addr) (n c : Nat) (l : List UInt8) (w : World) (h : Sl w A n c (bv l)) : Calls Try.prog 12 #[.slice A n c] w (Gives (unpO l) (unpE l) w) :=
  (runpad_rel A n c l w h).mono fun e w' h => gives_unpad l w e w' h
theorem bk_any (n : Int) (w : World) : Calls Try.prog 13 #[.int .i64 n] w fun e w' => e = .returned (.tuple #[.int .i64 (bkO n), .int .i64 (bkE n)]) ∧ w = w' := by
  unfold bkO bkE
  by_cases h0 : n < 0
  · rw [if_neg (by omega), if_pos h0]; exact bucket_neg n w h0
  · by_cases h1 : n < 65536
    · rw [if_pos ⟨by omega, h1⟩, if_neg h0, if_pos h1]; exact bucket_mid n w (by omega) h1
    · rw [if_neg (by omega), if_neg h0, if_neg h1]; exact bucket_big n w (by omega)
theorem rbk_any (n : Int) (w : World) : Calls Try.prog 14 #[.int .i64 n] w fun e w' => e = .returned (.tuple #[.int .i64 (bkO n), .int .i64 (bkE n)]) ∧ w = w' := by
  unfold bkO bkE
  by_cases h0 : n < 0
  · rw [if_neg (by omega), if_pos h0]; exact rbucket_neg n w h0
  · by_cases h1 : n < 65536
    · rw [if_pos ⟨by omega, h1⟩, if_neg h0, if_pos h1]
      exact (rbucket_any n w (by omega)).mono fun e w' ⟨a, b⟩ => ⟨by rcases a with ⟨_, a⟩ | ⟨a, _⟩ <;> first | exact a | omega, b⟩
    · rw [if_neg (by omega), if_neg h0, if_neg h1]; exact rbucket_big n w (by omega)

set_option maxRecDepth 100000 in
set_option maxHeartbeats 1000000 in
theorem fillsWalk (A : Option Addr) (n c : Nat) (l : List UInt8) (m : Int) (w : World) (h : Sl w A n c (bv l)) (hn : n ≤ 140737488355328) :
    Calls Try.prog 3 #[.slice A n c, .int .i64 m] w fun e w' => e = .returned (.bool true) ∧ Below w.heap.size w w' := by
  have HN := Lib.hid hn; clear hn
  by_cases hbig : 300000 < (n : Int) + 1
  · have HB := Lib.hid hbig; clear hbig
    go_enter Try.func3, Try.ntmps3
    go_wp2_with (first
      | (go_at_call 7; refine (lead w).mono ?_; rintro e w1 ⟨rfl, hB1⟩)
      | (go_at_call 8; refine (big_yes A n c w1 HN.out (by have := HB.out; omega)).mono ?_; rintro e w' ⟨rfl, rfl⟩))
    go_ret
    exact ⟨rfl, hB1.alloc hB1.size _⟩
  · have HB := Lib.hid hbig; clear hbig
    go_enter Try.func3, Try.ntmps3
    go_wp2_with (first
      | (go_at_call 7; refine (lead w).mono ?_; rintro e w1 ⟨rfl, hB1⟩)
      | (go_at_call 8; refine (big_no A n c w1 HN.out (by have := HB.out; omega)).mono ?_; clear HN HB; rintro e w' ⟨rfl, rfl⟩)
      | (go_at_call 9; refine (pad_any A n c l _ ((h.below hB1).alloc _)).mono ?_; rintro e w2 ⟨A2, c2, rfl, hS2, hB2⟩)
      | (go_at_call 10; refine (rpad_any A n c l _ (((h.below hB1).alloc _).below hB2)).mono ?_; rintro e w3 ⟨A3, c3, rfl, hS3, hB3⟩)
      | (go_at_call 11; refine (unpad_any A n c l _ ((((h.below hB1).alloc _).below hB2).below hB3)).mono ?_; rintro e w4 ⟨A4, c4, rfl, hS4, hB4⟩)
      | (go_at_call 12; refine (runpad_any A n c l _ (((((h.below hB1).alloc _).below hB2).below hB3).below hB4)).mono ?_; rintro e w5 ⟨A5, c5, rfl, hS5, hB5⟩
         have s2 := (((hS2.below hB3).below hB4).below hB5).str (P := Try.prog) Try.underlying22 Try.underlying5 Try.underlying9
         have s3 := ((hS3.below hB4).below hB5).str (P := Try.prog) Try.underlying22 Try.underlying5 Try.underlying9
         have s4 := (hS4.below hB5).str (P := Try.prog) Try.underlying22 Try.underlying5 Try.underlying9
         have s5 := hS5.str (P := Try.prog) Try.underlying22 Try.underlying5 Try.underlying9)
      | (go_at_call 13; refine (bk_any m _).mono ?_; rintro e w' ⟨rfl, rfl⟩)
      | (go_at_call 14; refine (rbk_any m _).mono ?_; rintro e w' ⟨rfl, rfl⟩))
    go_ret
    exact ⟨rfl, nx (nx (nx (nx (nxa hB1 _) hB2) hB3) hB4) hB5⟩
theorem padFills_walk (A : Option Addr) (n c : Nat) (zs : List Int) (m : Int) (w : World) (h : IsRow .u8 w A n c zs) (hn : n * 1 ≤ 140737488351232) (_ : -9223372036854775808 ≤ m ∧ m ≤ 9223372036854775807) :
    Calls Try.prog 3 #[.slice A n c, .int .i64 m] w fun e w' => e = .returned (.bool true) ∧ Below w.heap.size w w' := by
  obtain ⟨l, hs, _⟩ := h.bytes
  exact fillsWalk A n c l m w hs (by omega)
end Go.Proofs.Ytejhphjilmpfkaa
