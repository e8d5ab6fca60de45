/- The walk of the law PadBack. -/
import Derived.Test.YtejhphjilmpfkaaLive
import Derived.Test.YtejhphjilmpfkaaBig
namespace Go.Proofs.Ytejhphjilmpfkaa
open Go.RowKit

theorem big_one (A : Option Addr) (n c : Nat) (w : World) (hn : n ≤ 140737488355328) :
    Calls Try.prog 8 #[.slice (some ⟨w.heap.size, 0, none⟩) 1 1] (w.alloc (.cells #[.slice A n c] 22)) fun e w' => e = .returned (.bool (decide (300000 < (n : Int) + 1))) ∧ w.alloc (.cells #[.slice A n c] 22) = w' := by
  have hs : Sls [Value.slice A n c] := fun v hv => by rw [List.mem_singleton] at hv; exact ⟨A, n, c, hv, hn⟩
  have hb : bigR [Value.slice A n c] = (n : Int) + 1 := by
    have := (bigR_eq [Value.slice A n c] hs (by simp)).1
    rw [this]; simp [slen_slice]
  refine (big_any (some ⟨w.heap.size, 0, none⟩) 1 1 [.slice A n c] _ ⟨rfl, by omega, by unfold maxLen; omega, lies_cells w #[.slice A n c] 22⟩ hs).mono ?_
  rintro e w' ⟨rfl, rfl⟩
  rw [hb]; exact ⟨rfl, rfl⟩

theorem big_yes (A : Option Addr) (n c : Nat) (w : World) (hn : n ≤ 140737488355328) (h : 300000 < (n : Int) + 1) :
    Calls Try.prog 8 #[.slice (some ⟨w.heap.size, 0, none⟩) 1 1] (w.alloc (.cells #[.slice A n c] 22)) fun e w' => e = .returned (.bool true) ∧ w.alloc (.cells #[.slice A n c] 22) = w' :=
  (big_one A n c w hn).mono fun _ _ ⟨h1, h2⟩ => ⟨by rw [h1, decide_eq_true h], h2⟩
theorem big_no (A : Option Addr) (n c : Nat) (w : World) (hn : n ≤ 140737488355328) (h : ¬ 300000 < (n : Int) + 1) :
    Calls Try.prog 8 #[.slice (some ⟨w.heap.size, 0, none⟩) 1 1] (w.alloc (.cells #[.slice A n c] 22)) fun e w' => e = .returned (.bool false) ∧ w.alloc (.cells #[.slice A n c] 22) = w' :=
  (big_one A n c w hn).mono fun _ _ ⟨h1, h2⟩ => ⟨by rw [h1, decide_eq_false h], h2⟩
set_option maxRecDepth 100000 in
set_option maxHeartbeats 1000000 in
theorem backWalk (A : Option Addr) (n c : Nat) (l : List UInt8) (w : World) (h : Sl w A n c (bv l)) (hn : n ≤ 140737488355328) :
    Calls Try.prog 4 #[.slice A n c] w fun e w' => e = .returned (.bool true) ∧ Below w.heap.size w w' := by
  have Hl := Lib.hid (show l.length = n by have := h.len; rwa [bv_length] at this)
  have HN := Lib.hid hn; clear hn
  by_cases hbig : 300000 < (n : Int) + 1
  · have HB := Lib.hid hbig; clear hbig
    go_enter Try.func4, Try.ntmps4
    go_wp2_with (first
      | (go_at_call 7; refine (lead w).mono ?_; rintro e w1 ⟨rfl, hB1⟩)
      | (go_at_call 8; refine (big_yes A n c w1 HN.out (by have := HB.out; omega)).mono ?_; clear HN HB; rintro e w' ⟨rfl, rfl⟩))
    go_ret
    exact ⟨rfl, hB1.alloc hB1.size _⟩
  · have HB := Lib.hid hbig; clear hbig
    by_cases hn2 : n < 65536
    · have hpl : n < (padL l).length := by rw [padL_length l (by have := Hl.out; omega), Hl.out]; exact lt_bk n hn2
      go_enter Try.func4, Try.ntmps4
      go_wp2_with (first
        | (go_at_call 7; refine (lead w).mono ?_; rintro e w1 ⟨rfl, hB1⟩)
        | (go_at_call 8; refine (big_no A n c w1 HN.out (by have := HB.out; omega)).mono ?_; clear HN HB; rintro e w' ⟨rfl, rfl⟩)
        | (go_at_call 9; refine (pad_ok A n c l _ ((h.below hB1).alloc _) hn2).mono ?_; rintro e w2 ⟨A2, c2, rfl, hS2, hB2⟩)
        | (go_at_call 11; fail))
      refine (unpad_some A2 _ c2 (padL l) l w2 hS2 (unpad_pad l (by have := Hl.out; omega))).mono ?_
      rintro e w3 ⟨A3, c3, rfl, hS3, hB3⟩
      have hSb := (((h.below hB1).alloc (.cells #[.slice A n c] 22)).below hB2).below hB3
      have s1 := hSb.str (P := Try.prog) Try.underlying22 Try.underlying5 Try.underlying9
      have s2 := hS3.str (P := Try.prog) Try.underlying22 Try.underlying5 Try.underlying9
      rw [Hl.out] at s2 ⊢
      go_wp2_with fail
      clear s1 s2
      have z1 := hB1.size; have z2 := hB2.size; have z3 := hB3.size; simp only [World.size_alloc] at z2
      rcases hu : unpadL l with _ | y
      · refine (unpad_none A n c l w3 hSb hu).mono ?_
        rintro e w4 ⟨rfl, hB4⟩
        have hu2 := Lib.hid hu; clear hu
        go_wp2_with fail
        go_ret
        exact ⟨rfl, (((hB1.alloc z1 _).trans (hB2.mono (by simp; omega))).trans (hB3.mono (by omega))).trans (hB4.mono (by omega))⟩
      · refine (unpad_some A n c l y w3 hSb hu).mono ?_
        rintro e w4 ⟨A4, c4, rfl, hS4, hB4⟩
        obtain ⟨hy1, hy2⟩ := pad_unpad l y hu
        have Hy := Lib.hid hy2; clear hy2
        have hu2 := Lib.hid hu; clear hu
        have hSc := hSb.below hB4
        go_wp2_with fail
        refine (pad_ok A4 y.length c4 y w4 hS4 hy1).mono ?_
        rintro e w5 ⟨A5, c5, rfl, hS5, hB5⟩
        rw [Hy.out] at hS5 ⊢
        have s3 := (hSc.below hB5).str (P := Try.prog) Try.underlying22 Try.underlying5 Try.underlying9
        have s4 := hS5.str (P := Try.prog) Try.underlying22 Try.underlying5 Try.underlying9
        go_wp2_with fail
        go_ret
        exact ⟨rfl, ((((hB1.alloc z1 _).trans (hB2.mono (by simp; omega))).trans (hB3.mono (by omega))).trans (hB4.mono (by omega))).trans (hB5.mono (by have := hB4.size; omega))⟩
    · have HN2 := Lib.hid hn2; clear hn2
      have hpn := fun W => pad_no A n c W (by have := HN2.out; omega) (Nat.le_trans h.cap h.top)
      have hd : decide ((n : Int) < 65536) = false := by have := HN2.out; simp; omega
      have HP := Lib.hid hpn; clear hpn HN2
      go_enter Try.func4, Try.ntmps4
      go_wp2_with (first
        | (go_at_call 7; refine (lead w).mono ?_; rintro e w1 ⟨rfl, hB1⟩)
        | (go_at_call 8; refine (big_no A n c w1 HN.out (by have := HB.out; omega)).mono ?_; clear HN HB; rintro e w' ⟨rfl, rfl⟩)
        | (go_at_call 9; refine (HP.out _).mono ?_; rintro e w' ⟨rfl, rfl⟩)
        | (go_at_call 11; fail))
      have hSb := (h.below hB1).alloc (.cells #[.slice A n c] 22)
      have z1 := hB1.size
      rcases hu : unpadL l with _ | y
      · refine (unpad_none A n c l _ hSb hu).mono ?_
        rintro e w4 ⟨rfl, hB4⟩
        have hu2 := Lib.hid hu; clear hu
        go_wp2_with fail
        go_ret
        exact ⟨rfl, ((hB1.alloc z1 _)).trans (hB4.mono (by simp; omega))⟩
      · refine (unpad_some A n c l y _ hSb hu).mono ?_
        rintro e w4 ⟨A4, c4, rfl, hS4, hB4⟩
        obtain ⟨hy1, hy2⟩ := pad_unpad l y hu
        have Hy := Lib.hid hy2; clear hy2
        have hu2 := Lib.hid hu; clear hu
        have hSc := hSb.below hB4
        go_wp2_with fail
        refine (pad_ok A4 y.length c4 y w4 hS4 hy1).mono ?_
        rintro e w5 ⟨A5, c5, rfl, hS5, hB5⟩
        rw [Hy.out] at hS5 ⊢
        have s3 := (hSc.below hB5).str (P := Try.prog) Try.underlying22 Try.underlying5 Try.underlying9
        have s4 := hS5.str (P := Try.prog) Try.underlying22 Try.underlying5 Try.underlying9
        go_wp2_with fail
        go_ret
        exact ⟨rfl, (((hB1.alloc z1 _)).trans (hB4.mono (by simp; omega))).trans (hB5.mono (by have := hB4.size; simp at this; omega))⟩
theorem padBack_walk (A : Option Addr) (n c : Nat) (zs : List Int) (w : World) (h : IsRow .u8 w A n c zs) (hn : n * 1 ≤ 140737488351232) :
    Calls Try.prog 4 #[.slice A n c] w fun e w' => e = .returned (.bool true) ∧ Below w.heap.size w w' := by
  obtain ⟨l, hs, _⟩ := h.bytes
  exact backWalk A n c l w hs (by omega)
end Go.Proofs.Ytejhphjilmpfkaa
