/- The walk of the law WireOptions. -/
import Derived.Test.YtjebmmmjjiomfaaBig
import Derived.Test.YtjebmmmjjiomfaaWideWalk
import Derived.Test.YtjebmmmjjiomfaaOpt
import Derived.BigQuiet
namespace Go.Proofs.Ytjebmmmjjiomfaa
open Go.RowKit

theorem takeB_bytes (l r : List UInt8) (h : l.length < 1073741824) : takeB (bytesL l ++ r) = (l, (bytesL l).length, 0) := by
  have e : takeI (bytesL l ++ r) = (l.length, (intL l.length).length, 0) := by
    unfold bytesL; rw [List.append_assoc]; exact take_int _ h _
  unfold takeB
  rw [e]
  simp only [ne_eq, not_true_eq_false, if_false]
  rw [if_neg (by simp [bytesL])]
  simp [bytesL]
theorem takeO_some (l : List UInt8) (h : l.length < 1073741824) : takeO (1 :: bytesL l) = (l, true, (bytesL l).length + 1, 0) := by
  have e := takeB_bytes l [] h
  rw [List.append_nil] at e
  show (if _ then _ else _) = _
  rw [if_neg (by rw [e]; simp), e]
theorem takeO_zero : takeO [0] = ([], false, 1, 0) := by decide +kernel

/-- wire.Opt, wire.TakeOpt, wire.Bytes, wire.Join under names -/
theorem optS (A : Option Addr) (n c : Nat) (l : List UInt8) (w : World) (h : Sl w A n c (bv l)) (m : Nat) (hm : Hid ((bytesL l).length = m)) (hn : Hid (n < 1073741824)) :
    Calls Try.prog 27 #[.slice A n c, .bool true] w fun e w' => ∃ A' c', e = .returned (.tuple #[.slice A' (m + 1) c', .int .i64 0]) ∧ Sl w' A' (m + 1) c' (bv (1 :: bytesL l)) ∧ Below w.heap.size w w' :=
  (opt_some A n c l w h hn).mono fun e w' ⟨A', c', h1, h2, h3⟩ => by
    rw [List.length_cons, hm.out] at h1 h2; exact ⟨A', c', h1, h2.sl, h3⟩
theorem takeOS (A : Option Addr) (n c m : Nat) (l : List UInt8) (w : World) (h : Sl w A (m + 1) c (bv (1 :: bytesL l))) (hl : l.length = n) (hm : Hid ((bytesL l).length = m)) (hn : Hid (n < 1073741824)) :
    Calls Try.prog 31 #[.slice A (m + 1) c] w fun e w' => ∃ A' c', e = .returned (.tuple #[.slice A' n c', .bool true, .int .i64 ((m : Int) + 1), .int .i64 0]) ∧ Sl w' A' n c' (bv l) ∧ Below w.heap.size w w' :=
  (takeO_any A (m + 1) c _ w h (Lib.hid (by have h1 := bytesL_len l; have h2 := intL_le l.length; have := hn.out; have := hm.out; omega))).mono fun e w' ⟨A', c', h1, h2, h3⟩ => by
    rw [takeO_some l (by rw [hl]; exact hn.out), hm.out] at h1
    rw [takeO_some l (by rw [hl]; exact hn.out)] at h2
    simp only [hl] at h1 h2
    exact ⟨A', c', by rw [h1]; simp, h2.sl, h3⟩
theorem bytesS (A : Option Addr) (n c : Nat) (l : List UInt8) (w : World) (h : Sl w A n c (bv l)) (m : Nat) (hm : Hid ((bytesL l).length = m)) (hn : Hid (n < 1073741824)) :
    Calls Try.prog 29 #[.slice A n c] w fun e w' => ∃ A' c', e = .returned (.tuple #[.slice A' m c', .int .i64 0]) ∧ Sl w' A' m c' (bv (bytesL l)) ∧ Below w.heap.size w w' :=
  (bytes_ok A n c l w h hn).mono fun e w' ⟨A', c', h1, h2, h3⟩ => by
    rw [hm.out] at h1 h2; exact ⟨A', c', h1, h2.sl, h3⟩
theorem joinS (A : Option Addr) (n c : Nat) (l : List UInt8) (w : World) (h : Sl w A n c (bv l)) (m : Nat) (hm : Hid ((bytesL (bytesL l)).length = m)) (hn : Hid (n < 1000000)) :
    Calls Try.prog 21 #[.slice (some ⟨w.heap.size, 0, none⟩) 1 1] (w.alloc (.cells #[.slice A n c] 23)) fun e w' => ∃ A' c', e = .returned (.tuple #[.slice A' m c', .int .i64 0]) ∧ Sl w' A' m c' (bv (bytesL (bytesL l))) ∧ Below (w.alloc (.cells #[.slice A n c] 23)).heap.size (w.alloc (.cells #[.slice A n c] 23)) w' := by
  have hl := h.len; rw [bv_length] at hl
  have hn' := hn.out
  have ej : jl [l] = bytesL l := by simp [jl]
  have h1 := bytesL_len l; have h2 := intL_le l.length
  have hs : Sl (w.alloc (.cells #[.slice A n c] 23)) (some ⟨w.heap.size, 0, none⟩) 1 1 [.slice A n c] := ⟨rfl, by omega, by unfold maxLen; omega, lies_cells w #[.slice A n c] 23⟩
  have hb : BL (w.alloc (.cells #[.slice A n c] 23)) [.slice A n c] [l] := ⟨rfl, fun k u hk => by
    cases k with
    | zero => simp at hk; subst hk; exact ⟨A, n, c, l, rfl, rfl, h.alloc _⟩
    | succ k => simp at hk⟩
  refine (join_ok _ 1 1 _ [l] _ hs hb (Lib.hid (by intro x hx; simp at hx; subst hx; omega)) (Lib.hid (by rw [ej]; omega))).mono fun e w' ⟨A', c', h1, h2, h3⟩ => ?_
  rw [ej, hm.out] at h1
  rw [ej, hm.out] at h2
  exact ⟨A', c', h1, h2.sl, h3⟩

set_option maxRecDepth 100000 in
set_option maxHeartbeats 2000000 in
theorem optsBig (A : Option Addr) (n c : Nat) (b : Bool) (w : World) (hn : Hid (n ≤ 140737488355328)) (hb : Hid (100000 < (n : Int) + 1)) :
    Calls Try.prog 7 #[.slice A n c, .bool b] w fun e w' => e = .returned (.bool true) ∧ Below w.heap.size w w' := by
  go_enter Try.func7, Try.ntmps7
  go_wp2_with (first
    | (go_at_call 15; refine (lead w).mono ?_; rintro e w1 ⟨rfl, hB1⟩)
    | (go_at_call 20; refine (big1_yes A n c w1 hn.out hb.out).mono ?_; rintro e w' ⟨rfl, rfl⟩))
  go_ret
  exact ⟨rfl, nxa hB1 _⟩

theorem takeON (A : Option Addr) (c : Nat) (w : World) (h : Sl w A 1 c (bv [0])) :
    Calls Try.prog 31 #[.slice A 1 c] w fun e w' => ∃ A' c', e = .returned (.tuple #[.slice A' 0 c', .bool false, .int .i64 1, .int .i64 0]) ∧ Below w.heap.size w w' :=
  (takeO_any A 1 c _ w h (Lib.hid (by omega))).mono fun e w' ⟨A', c', h1, _, h3⟩ => by
    rw [takeO_zero] at h1; exact ⟨A', c', h1, h3⟩

set_option maxRecDepth 100000 in
set_option maxHeartbeats 2000000 in
theorem optsYes (A : Option Addr) (n c : Nat) (l : List UInt8) (w : World) (h : Sl w A n c (bv l)) (hn : Hid (¬ 100000 < (n : Int) + 1)) :
    Calls Try.prog 7 #[.slice A n c, .bool true] w fun e w' => e = .returned (.bool true) ∧ Below w.heap.size w w' := by
  have hl := h.len; rw [bv_length] at hl
  obtain ⟨m, hm⟩ : ∃ m, Hid ((bytesL l).length = m) := ⟨_, rfl⟩
  obtain ⟨k, hk⟩ : ∃ k, Hid ((bytesL (bytesL l)).length = k) := ⟨_, rfl⟩
  have hmn : 1 ≤ m ∧ m ≤ n + 4 := by
    have h1 := bytesL_len l; have h2 := intL_le l.length; have := hm.out; omega
  have HN : Hid (n < 1073741824) := Lib.hid (by have := hn.out; omega)
  have HM : Hid (m < 1073741824) := Lib.hid (by have := hn.out; omega)
  have HN2 : Hid (n < 1000000) := Lib.hid (by have := hn.out; omega)
  have HN3 : Hid (n ≤ 140737488355328) := Lib.hid (by have := hn.out; omega)
  have hm1 := hmn.1
  clear hmn
  have HLN := Lib.hid hl; clear hl
  go_enter Try.func7, Try.ntmps7
  go_wp2_with (first
    | (go_at_call 15; refine (lead w).mono ?_; rintro e w1 ⟨rfl, hB1⟩)
    | (go_at_call 20; refine (big1_no A n c w1 HN3.out (by have := hn.out; omega)).mono ?_; rintro e w' ⟨rfl, rfl⟩)
    | (go_at_call 27; fail))
  have hX1 := (h.below hB1).alloc (.cells #[.slice A n c] 23)
  refine (optS A n c l _ hX1 m hm HN).mono ?_; rintro e w2 ⟨A2, c2, rfl, hS2, hB2⟩
  go_wp2_with (go_at_call 31; fail)
  refine (takeOS A2 n c2 m l w2 hS2 HLN.out hm HN).mono ?_; rintro e w3 ⟨A3, c3, rfl, hS3, hB3⟩
  go_wp2_with (go_at_call 29; fail)
  have hX3 := (hX1.below hB2).below hB3
  refine (bytesS A n c l w3 hX3 m hm HN).mono ?_; rintro e w4 ⟨A4, c4, rfl, hS4, hB4⟩
  go_wp2_with (go_at_call 29; fail)
  refine (bytesS A4 m c4 (bytesL l) w4 hS4 k hk HM).mono ?_; rintro e w5 ⟨A5, c5, rfl, hS5, hB5⟩
  have hX5 := (hX3.below hB4).below hB5
  go_wp2_with (go_at_call 21; fail)
  refine (joinS A n c l w5 hX5 k hk HN2).mono ?_; rintro e w6 ⟨A6, c6, rfl, hS6, hB6⟩
  go_wp2_with fail
  have hX6 := (hX5.alloc (.cells #[.slice A n c] 23)).below hB6
  have hS36 := (((hS3.below hB4).below hB5).alloc (.cells #[.slice A n c] 23)).below hB6
  have hS46 := ((hS4.below hB5).alloc (.cells #[.slice A n c] 23)).below hB6
  have hS56 := (hS5.alloc (.cells #[.slice A n c] 23)).below hB6
  have hS26 := ((((hS2.below hB3).below hB4).below hB5).alloc (.cells #[.slice A n c] 23)).below hB6
  have HB := Lib.hid (nx (nxa (nx (nx (nx (nx (nxa hB1 (.cells #[.slice A n c] 23)) hB2) hB3) hB4) hB5) (.cells #[.slice A n c] 23)) hB6)
  have hc2 := hS26.cap
  obtain ⟨ad, hl0, rfl, _⟩ := hS26.byte (k := 0) (by omega)
  have hsub := hS26.sub (lo := 1) (hi := m + 1) (by omega) (by omega)
  rw [if_neg (by omega), List.take_of_length_le (by rw [bv_length, List.length_cons, hm.out]; exact Nat.le_refl _), ← bv_drop, List.drop_one, List.tail_cons, Option.map_some, Nat.add_sub_cancel] at hsub
  replace hsub : Sl w6 (some ⟨ad.block, ad.off + 1, none⟩) m (c2 - 1) (bv (bytesL l)) := hsub
  have q1 := fun j => (hS36.drewN j).str (P := Try.prog) Try.underlying23 Try.underlying5 Try.underlying9
  have q2 := fun j => (hX6.drewN j).str (P := Try.prog) Try.underlying23 Try.underlying5 Try.underlying9
  have q3 := fun j => (hsub.drewN j).str (P := Try.prog) Try.underlying23 Try.underlying5 Try.underlying9
  have q4 := fun j => (hS46.drewN j).str (P := Try.prog) Try.underlying23 Try.underlying5 Try.underlying9
  have q5 := fun j => (hS6.drewN j).str (P := Try.prog) Try.underlying23 Try.underlying5 Try.underlying9
  have q6 := fun j => (hS56.drewN j).str (P := Try.prog) Try.underlying23 Try.underlying5 Try.underlying9
  have i1 : (1 : Int) ≤ (m : Int) + 1 := by omega
  have i2 : (m : Int) + 1 ≤ (c2 : Int) := by omega
  have i3 : ¬ (c2 = 1) := by omega
  clear hX1 hX3 hX5 hX6 hS2 hS3 hS4 hS5 hS6 hS36 hS46 hS56 hS26 hsub hB1 hB2 hB3 hB4 hB5 hB6 h
  go_quiet (fail)
  go_wp2_with fail
  go_ret
  exact ⟨rfl, below_drewN HB.out _⟩
set_option maxRecDepth 100000 in
set_option maxHeartbeats 2000000 in
theorem optsNo (A : Option Addr) (n c : Nat) (l : List UInt8) (w : World) (h : Sl w A n c (bv l)) (hn : Hid (¬ 100000 < (n : Int) + 1)) :
    Calls Try.prog 7 #[.slice A n c, .bool false] w fun e w' => e = .returned (.bool true) ∧ Below w.heap.size w w' := by
  have hl := h.len; rw [bv_length] at hl
  obtain ⟨m, hm⟩ : ∃ m, Hid ((bytesL l).length = m) := ⟨_, rfl⟩
  obtain ⟨k, hk⟩ : ∃ k, Hid ((bytesL (bytesL l)).length = k) := ⟨_, rfl⟩
  have hmn : 1 ≤ m ∧ m ≤ n + 4 := by
    have h1 := bytesL_len l; have h2 := intL_le l.length; have := hm.out; omega
  have HN : Hid (n < 1073741824) := Lib.hid (by have := hn.out; omega)
  have HM : Hid (m < 1073741824) := Lib.hid (by have := hn.out; omega)
  have HN2 : Hid (n < 1000000) := Lib.hid (by have := hn.out; omega)
  have HN3 : Hid (n ≤ 140737488355328) := Lib.hid (by have := hn.out; omega)
  have hm1 := hmn.1
  clear hmn
  have HLN := Lib.hid hl; clear hl
  go_enter Try.func7, Try.ntmps7
  go_wp2_with (first
    | (go_at_call 15; refine (lead w).mono ?_; rintro e w1 ⟨rfl, hB1⟩)
    | (go_at_call 20; refine (big1_no A n c w1 HN3.out (by have := hn.out; omega)).mono ?_; rintro e w' ⟨rfl, rfl⟩)
    | (go_at_call 27; fail))
  have hX1 := (h.below hB1).alloc (.cells #[.slice A n c] 23)
  refine (opt_none A n c _).mono ?_; rintro e w2 ⟨A2, c2, rfl, hO2, hB2⟩
  have hS2 := hO2.sl
  go_wp2_with (go_at_call 31; fail)
  refine (takeON A2 c2 w2 hS2).mono ?_; rintro e w3 ⟨A3, c3, rfl, hB3⟩
  go_wp2_with (go_at_call 29; fail)
  have hX3 := (hX1.below hB2).below hB3
  refine (bytesS A n c l w3 hX3 m hm HN).mono ?_; rintro e w4 ⟨A4, c4, rfl, hS4, hB4⟩
  go_wp2_with (go_at_call 29; fail)
  refine (bytesS A4 m c4 (bytesL l) w4 hS4 k hk HM).mono ?_; rintro e w5 ⟨A5, c5, rfl, hS5, hB5⟩
  have hX5 := (hX3.below hB4).below hB5
  go_wp2_with (go_at_call 21; fail)
  refine (joinS A n c l w5 hX5 k hk HN2).mono ?_; rintro e w6 ⟨A6, c6, rfl, hS6, hB6⟩
  go_wp2_with fail
  have hX6 := (hX5.alloc (.cells #[.slice A n c] 23)).below hB6
  have hS46 := ((hS4.below hB5).alloc (.cells #[.slice A n c] 23)).below hB6
  have hS56 := (hS5.alloc (.cells #[.slice A n c] 23)).below hB6
  have HB := Lib.hid (nx (nxa (nx (nx (nx (nx (nxa hB1 (.cells #[.slice A n c] 23)) hB2) hB3) hB4) hB5) (.cells #[.slice A n c] 23)) hB6)
  have q5 := fun j => (hS6.drewN j).str (P := Try.prog) Try.underlying23 Try.underlying5 Try.underlying9
  have q6 := fun j => (hS56.drewN j).str (P := Try.prog) Try.underlying23 Try.underlying5 Try.underlying9
  clear hX1 hX3 hX5 hX6 hS2 hO2 hS4 hS5 hS6 hS46 hS56 hB1 hB2 hB3 hB4 hB5 hB6 h
  go_quiet (fail)
  go_wp2_with fail
  go_ret
  exact ⟨rfl, below_drewN HB.out _⟩

theorem optsWalk (A : Option Addr) (n c : Nat) (zs : List Int) (b : Bool) (w : World) (h : IsRow .u8 w A n c zs) (hn : n * 1 ≤ 140737488351232) :
    Calls Try.prog 7 #[.slice A n c, .bool b] w fun e w' => e = .returned (.bool true) ∧ Below w.heap.size w w' := by
  obtain ⟨l, hs, _⟩ := h.bytes
  by_cases hb : 100000 < (n : Int) + 1
  · exact optsBig A n c b w (Lib.hid (by omega)) hb
  · cases b
    · exact optsNo A n c l w hs hb
    · exact optsYes A n c l w hs hb
end Go.Proofs.Ytjebmmmjjiomfaa
