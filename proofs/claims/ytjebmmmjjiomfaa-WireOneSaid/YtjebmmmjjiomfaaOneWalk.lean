/- The walk of the law WireOne. Printed by gen_wireone.py. -/
import Derived.Test.YtjebmmmjjiomfaaOneK
import Derived.BigQuiet
namespace Go.Proofs.Ytjebmmmjjiomfaa
open Go.RowKit

set_option maxRecDepth 100000 in
set_option maxHeartbeats 2000000 in
theorem oneBig (A : Option Addr) (n c : Nat) (w : World) (hn : Hid (n ≤ 140737488355328)) (hb : Hid (100000 < (n : Int) + 1)) :
    Calls Try.prog 8 #[.slice A n c] w fun e w' => e = .returned (.bool true) ∧ Below w.heap.size w w' := by
  go_enter Try.func8, Try.ntmps8
  go_wp2_with (first
    | (go_at_call 15; refine (lead w).mono ?_; rintro e w1 ⟨rfl, hB1⟩)
    | (go_at_call 20; refine (big1_yes A n c w1 hn.out hb.out).mono ?_; rintro e w' ⟨rfl, rfl⟩))
  go_ret
  exact ⟨rfl, nxa hB1 _⟩

/-- Split, its answer split -/
theorem splitK (A : Option Addr) (n c : Nat) (l : List UInt8) (bss : List (List UInt8)) (k : Nat) (w : World) (h : Sl w A n c (bv l)) (hn : Hid (n ≤ 1000000000000)) (hs : Hid (splitL l = some (bss, k))) :
    Calls Try.prog 22 #[.slice A n c] w fun e w' => ∃ A' c' xs, e = .returned (.tuple #[.slice A' bss.length c', .int .i64 (k : Int), .int .i64 0]) ∧ Ow w' w.heap.size 23 1 A' bss.length c' xs ∧ BO w' w.heap.size xs bss ∧ Below w.heap.size w w' :=
  (split_any A n c l w h hn).mono fun e w' hp => by
    rw [hs.out] at hp
    obtain ⟨hB, A', c', xs, h1, h2, h3⟩ := hp
    exact ⟨A', c', xs, h1, h2, h3, hB⟩
theorem splitN (A : Option Addr) (n c : Nat) (l : List UInt8) (w : World) (h : Sl w A n c (bv l)) (hn : Hid (n ≤ 1000000000000)) (hs : Hid (splitL l = none)) :
    Calls Try.prog 22 #[.slice A n c] w fun e w' => ∃ p : Nat, p ≠ 0 ∧ e = .returned (.tuple #[.slice none 0 0, .int .i64 0, .int .i64 (p : Int)]) ∧ Below w.heap.size w w' :=
  (split_any A n c l w h hn).mono fun e w' hp => by
    rw [hs.out] at hp
    obtain ⟨hB, q, h1, h2, h3⟩ := hp
    exact ⟨q, h1, h3, hB⟩
theorem takeIK (A : Option Addr) (n c : Nat) (l : List UInt8) (m k q : Nat) (w : World) (h : Sl w A n c (bv l)) (ht : Hid (takeI l = (m, k, q))) :
    Calls Try.prog 17 #[.slice A n c] w fun e w' => e = .returned (.tuple #[.int .i64 (m : Int), .int .i64 (k : Int), .int .i64 (q : Int)]) ∧ w = w' :=
  (takeInt_any A n c l w h).mono fun e w' ⟨h1, h2⟩ => by rw [ht.out] at h1; exact ⟨h1, h2⟩

theorem takeOE (A : Option Addr) (n c : Nat) (l x : List UInt8) (b : Bool) (k q : Nat) (w : World) (h : Sl w A n c (bv l)) (hn : Hid (n ≤ 140737488355328)) (ht : Hid (takeO l = (x, b, k, q))) (hq : q ≠ 0) :
    Calls Try.prog 31 #[.slice A n c] w fun e w' => ∃ m' A' c', e = .returned (.tuple #[.slice A' m' c', .bool false, .int .i64 0, .int .i64 (q : Int)]) ∧ Below w.heap.size w w' :=
  (takeOK A n c l x b k q w h hn ht).mono fun e w' ⟨A', c', h1, _, h3⟩ => by
    obtain ⟨rfl, rfl⟩ := takeO_no l x b k q ht.out hq
    exact ⟨_, A', c', h1, h3⟩

set_option maxRecDepth 100000 in
set_option maxHeartbeats 8000000 in
theorem oneSmall (A : Option Addr) (n c : Nat) (l : List UInt8) (w : World) (h : Sl w A n c (bv l)) (hn : Hid (¬ 100000 < (n : Int) + 1)) :
    Calls Try.prog 8 #[.slice A n c] w fun e w' => e = .returned (.bool true) ∧ Below w.heap.size w w' := by
  have hl := h.len; rw [bv_length] at hl
  have HN3 : Hid (n ≤ 140737488355328) := Lib.hid (by have := hn.out; omega)
  have HN4 : Hid (n ≤ 1000000000000) := Lib.hid (by have := hn.out; omega)
  obtain ⟨⟨m, k, q⟩, hI⟩ : ∃ t, Hid (takeI l = t) := ⟨_, Lib.hid rfl⟩
  obtain ⟨⟨xo, bo, ko, qo⟩, hO⟩ : ∃ t, Hid (takeO l = t) := ⟨_, Lib.hid rfl⟩
  obtain ⟨S, hS⟩ : ∃ t, Hid (splitL l = t) := ⟨_, Lib.hid rfl⟩
  have HLN := Lib.hid hl; clear hl
  go_enter Try.func8, Try.ntmps8
  go_wp2_with (first
    | (go_at_call 15; refine (lead w).mono ?_; rintro e w1 ⟨rfl, hB1⟩)
    | (go_at_call 20; refine (big1_no A n c w1 HN3.out (by have := hn.out; omega)).mono ?_; rintro e w' ⟨rfl, rfl⟩)
    | (go_at_call 17; fail))
  have hX := (h.below hB1).alloc (.cells #[.slice A n c] 23)
  have HB := Lib.hid (nxa hB1 (.cells #[.slice A n c] 23))
  clear h hB1
  obtain ⟨W, hW⟩ : ∃ W, w1.alloc (.cells #[.slice A n c] 23) = W := ⟨_, rfl⟩
  rw [hW] at hX HB ⊢
  clear hW
  refine (takeIK A n c l m k q W hX hI).mono ?_; rintro e w' ⟨rfl, rfl⟩
  by_cases q0 : q = 0
  · subst q0
    obtain ⟨y1, hk1, hk2, y2, y3⟩ := int_take l m k hI.out
    clear y1 y2 y3
    rw [HLN.out] at hk2
    go_wp2_with fail
    refine (intK l m k W hI).mono ?_; rintro e w3 ⟨A3, c3, rfl, hS3, hB3⟩
    replace hX := hX.below hB3
    replace HB := Lib.hid (nx HB.out hB3)
    clear hB3
    go_wp2_with fail
    have q1 := fun j => (hS3.drewN j).str (P := Try.prog) Try.underlying23 Try.underlying5 Try.underlying9
    have hP := hX.pre hk2
    rw [← bv_take] at hP
    have q2 := fun j => (hP.drewN j).str (P := Try.prog) Try.underlying23 Try.underlying5 Try.underlying9
    have z1 : (1 : Int) ≤ (k : Int) := by omega
    have z2 : (k : Int) ≤ (n : Int) := by omega
    have z3 : (0 : Int) ≤ (k : Int) := by omega
    have z4 : (k : Int) ≤ (c : Int) := by have := hX.cap; omega
    have d1 : decide ((k : Int) < 1) = false := by simp; omega
    have d2 : decide (n < k) = false := by simp; omega
    have d3 : decide ((n : Int) < (k : Int)) = false := by simp; omega
    go_quiet (fail)
    clear q1 q2 z1 z2 z3 z4 hP
    go_wp2_with fail
    clear d1 d2 d3
    clear hS3 hk1 hk2
    rcases S with _ | ⟨bss, k⟩
    · refine (splitN A n c l _ (hX.drewN _) HN4 hS).mono ?_; rintro e w4 ⟨p, hp, rfl, hB4⟩
      have p1 : ((p : Int) == 0) = false := by simp; omega
      have p2 : (p == 0) = false := by simp; omega
      replace hX := (hX.drewN _).below hB4
      replace HB := Lib.hid (nx (below_drewN HB.out _) hB4)
      clear hB4
      go_wp2_with fail
      by_cases q0 : qo = 0
      · subst q0
        refine (takeOK A n c l xo bo ko 0 _ hX HN3 hO).mono ?_; rintro e w7 ⟨A7, c7, rfl, hS7, hB7⟩
        replace hX := hX.below hB7
        replace HB := Lib.hid (nx HB.out hB7)
        clear hB7
        obtain ⟨hk1, hk2, y1, y2⟩ := takeO_ok l xo bo ko hO.out
        clear y1 y2
        rw [HLN.out] at hk2
        go_wp2_with fail
        refine (optK A7 c7 l xo bo ko w7 hS7 hO).mono ?_; rintro e w8 ⟨A8, c8, rfl, hS8, hB8⟩
        replace hX := hX.below hB8
        replace HB := Lib.hid (nx HB.out hB8)
        clear hB8 hS7
        go_wp2_with fail
        have q1 := fun j => (hS8.drewN j).str (P := Try.prog) Try.underlying23 Try.underlying5 Try.underlying9
        have hP := hX.pre hk2
        rw [← bv_take] at hP
        have q2 := fun j => (hP.drewN j).str (P := Try.prog) Try.underlying23 Try.underlying5 Try.underlying9
        have z1 : (1 : Int) ≤ (ko : Int) := by omega
        have z2 : (ko : Int) ≤ (n : Int) := by omega
        have z3 : (0 : Int) ≤ (ko : Int) := by omega
        have z4 : (ko : Int) ≤ (c : Int) := by have := hX.cap; omega
        have d1 : decide (1 ≤ (ko : Int)) = true := by simp; omega
        have d2 : decide (ko ≤ n) = true := by simp; omega
        have d3 : decide ((ko : Int) ≤ (n : Int)) = true := by simp; omega
        go_quiet (fail)
        go_wp2_with fail
        go_ret
        exact ⟨rfl, below_drewN HB.out _⟩
      · refine (takeOE A n c l xo bo ko qo _ hX HN3 hO q0).mono ?_; rintro e w7 ⟨m7, A7, c7, rfl, hB7⟩
        replace HB := Lib.hid (nx HB.out hB7)
        clear hB7
        have q1 : ((qo : Int) == 0) = false := by simp; omega
        have q2 : (qo == 0) = false := by simp; omega
        clear hX hO hn HN3 HN4
        go_wp2_with fail
        go_ret
        exact ⟨rfl, HB.out⟩
    · refine (splitK A n c l bss k _ (hX.drewN _) HN4 hS).mono ?_; rintro e w4 ⟨A4, c4, xs, rfl, hO4, hBO4, hB4⟩
      replace hX := (hX.drewN _).below hB4
      replace HB := Lib.hid (nx (below_drewN HB.out _) hB4)
      clear hB4
      obtain ⟨y1, hk1, hk2, y2⟩ := splitL_ok l bss k hS.out
      clear y1 y2
      rw [HLN.out] at hk2
      go_wp2_with fail
      refine (joinK l bss k A4 c4 _ xs w4 hS hO4 hBO4).mono ?_; rintro e w5 ⟨A5, c5, rfl, hS5, hB5⟩
      replace hX := hX.below hB5
      replace HB := Lib.hid (nx HB.out hB5)
      clear hB5 hO4 hBO4
      go_wp2_with fail
      have q1 := fun j => (hS5.drewN j).str (P := Try.prog) Try.underlying23 Try.underlying5 Try.underlying9
      have hP := hX.pre hk2
      rw [← bv_take] at hP
      have q2 := fun j => (hP.drewN j).str (P := Try.prog) Try.underlying23 Try.underlying5 Try.underlying9
      have z1 : (1 : Int) ≤ (k : Int) := by omega
      have z2 : (k : Int) ≤ (n : Int) := by omega
      have z3 : (0 : Int) ≤ (k : Int) := by omega
      have z4 : (k : Int) ≤ (c : Int) := by have := hX.cap; omega
      have d1 : decide ((k : Int) < 1) = false := by simp; omega
      have d2 : decide (n < k) = false := by simp; omega
      have d3 : decide ((n : Int) < (k : Int)) = false := by simp; omega
      go_quiet (fail)
      clear q1 q2 z1 z2 z3 z4 hP
      go_wp2_with fail
      clear d1 d2 d3
      by_cases q0 : qo = 0
      · subst q0
        refine (takeOK A n c l xo bo ko 0 _ (hX.drewN _) HN3 hO).mono ?_; rintro e w7 ⟨A7, c7, rfl, hS7, hB7⟩
        replace hX := (hX.drewN _).below hB7
        replace HB := Lib.hid (nx (below_drewN HB.out _) hB7)
        clear hB7
        obtain ⟨hk1, hk2, y1, y2⟩ := takeO_ok l xo bo ko hO.out
        clear y1 y2
        rw [HLN.out] at hk2
        go_wp2_with fail
        refine (optK A7 c7 l xo bo ko w7 hS7 hO).mono ?_; rintro e w8 ⟨A8, c8, rfl, hS8, hB8⟩
        replace hX := hX.below hB8
        replace HB := Lib.hid (nx HB.out hB8)
        clear hB8 hS7
        go_wp2_with fail
        have q1 := fun j => (hS8.drewN j).str (P := Try.prog) Try.underlying23 Try.underlying5 Try.underlying9
        have hP := hX.pre hk2
        rw [← bv_take] at hP
        have q2 := fun j => (hP.drewN j).str (P := Try.prog) Try.underlying23 Try.underlying5 Try.underlying9
        have z1 : (1 : Int) ≤ (ko : Int) := by omega
        have z2 : (ko : Int) ≤ (n : Int) := by omega
        have z3 : (0 : Int) ≤ (ko : Int) := by omega
        have z4 : (ko : Int) ≤ (c : Int) := by have := hX.cap; omega
        have d1 : decide (1 ≤ (ko : Int)) = true := by simp; omega
        have d2 : decide (ko ≤ n) = true := by simp; omega
        have d3 : decide ((ko : Int) ≤ (n : Int)) = true := by simp; omega
        go_quiet (fail)
        go_wp2_with fail
        go_ret
        exact ⟨rfl, below_drewN HB.out _⟩
      · refine (takeOE A n c l xo bo ko qo _ (hX.drewN _) HN3 hO q0).mono ?_; rintro e w7 ⟨m7, A7, c7, rfl, hB7⟩
        replace HB := Lib.hid (nx (below_drewN HB.out _) hB7)
        clear hB7
        have q1 : ((qo : Int) == 0) = false := by simp; omega
        have q2 : (qo == 0) = false := by simp; omega
        clear hX hO hn HN3 HN4
        go_wp2_with fail
        go_ret
        exact ⟨rfl, HB.out⟩
  · have q1 : ((q : Int) == 0) = false := by simp; omega
    have q2 : (q == 0) = false := by simp; omega
    go_wp2_with fail
    rcases S with _ | ⟨bss, k⟩
    · refine (splitN A n c l _ hX HN4 hS).mono ?_; rintro e w4 ⟨p, hp, rfl, hB4⟩
      have p1 : ((p : Int) == 0) = false := by simp; omega
      have p2 : (p == 0) = false := by simp; omega
      replace hX := hX.below hB4
      replace HB := Lib.hid (nx HB.out hB4)
      clear hB4
      go_wp2_with fail
      by_cases q0 : qo = 0
      · subst q0
        refine (takeOK A n c l xo bo ko 0 _ hX HN3 hO).mono ?_; rintro e w7 ⟨A7, c7, rfl, hS7, hB7⟩
        replace hX := hX.below hB7
        replace HB := Lib.hid (nx HB.out hB7)
        clear hB7
        obtain ⟨hk1, hk2, y1, y2⟩ := takeO_ok l xo bo ko hO.out
        clear y1 y2
        rw [HLN.out] at hk2
        go_wp2_with fail
        refine (optK A7 c7 l xo bo ko w7 hS7 hO).mono ?_; rintro e w8 ⟨A8, c8, rfl, hS8, hB8⟩
        replace hX := hX.below hB8
        replace HB := Lib.hid (nx HB.out hB8)
        clear hB8 hS7
        go_wp2_with fail
        have q1 := fun j => (hS8.drewN j).str (P := Try.prog) Try.underlying23 Try.underlying5 Try.underlying9
        have hP := hX.pre hk2
        rw [← bv_take] at hP
        have q2 := fun j => (hP.drewN j).str (P := Try.prog) Try.underlying23 Try.underlying5 Try.underlying9
        have z1 : (1 : Int) ≤ (ko : Int) := by omega
        have z2 : (ko : Int) ≤ (n : Int) := by omega
        have z3 : (0 : Int) ≤ (ko : Int) := by omega
        have z4 : (ko : Int) ≤ (c : Int) := by have := hX.cap; omega
        have d1 : decide (1 ≤ (ko : Int)) = true := by simp; omega
        have d2 : decide (ko ≤ n) = true := by simp; omega
        have d3 : decide ((ko : Int) ≤ (n : Int)) = true := by simp; omega
        go_quiet (fail)
        go_wp2_with fail
        go_ret
        exact ⟨rfl, below_drewN HB.out _⟩
      · refine (takeOE A n c l xo bo ko qo _ hX HN3 hO q0).mono ?_; rintro e w7 ⟨m7, A7, c7, rfl, hB7⟩
        replace HB := Lib.hid (nx HB.out hB7)
        clear hB7
        have q1 : ((qo : Int) == 0) = false := by simp; omega
        have q2 : (qo == 0) = false := by simp; omega
        clear hX hO hn HN3 HN4
        go_wp2_with fail
        go_ret
        exact ⟨rfl, HB.out⟩
    · refine (splitK A n c l bss k _ hX HN4 hS).mono ?_; rintro e w4 ⟨A4, c4, xs, rfl, hO4, hBO4, hB4⟩
      replace hX := hX.below hB4
      replace HB := Lib.hid (nx HB.out hB4)
      clear hB4
      obtain ⟨y1, hk1, hk2, y2⟩ := splitL_ok l bss k hS.out
      clear y1 y2
      rw [HLN.out] at hk2
      go_wp2_with fail
      refine (joinK l bss k A4 c4 _ xs w4 hS hO4 hBO4).mono ?_; rintro e w5 ⟨A5, c5, rfl, hS5, hB5⟩
      replace hX := hX.below hB5
      replace HB := Lib.hid (nx HB.out hB5)
      clear hB5 hO4 hBO4
      go_wp2_with fail
      have q1 := fun j => (hS5.drewN j).str (P := Try.prog) Try.underlying23 Try.underlying5 Try.underlying9
      have hP := hX.pre hk2
      rw [← bv_take] at hP
      have q2 := fun j => (hP.drewN j).str (P := Try.prog) Try.underlying23 Try.underlying5 Try.underlying9
      have z1 : (1 : Int) ≤ (k : Int) := by omega
      have z2 : (k : Int) ≤ (n : Int) := by omega
      have z3 : (0 : Int) ≤ (k : Int) := by omega
      have z4 : (k : Int) ≤ (c : Int) := by have := hX.cap; omega
      have d1 : decide ((k : Int) < 1) = false := by simp; omega
      have d2 : decide (n < k) = false := by simp; omega
      have d3 : decide ((n : Int) < (k : Int)) = false := by simp; omega
      go_quiet (fail)
      clear q1 q2 z1 z2 z3 z4 hP
      go_wp2_with fail
      clear d1 d2 d3
      by_cases q0 : qo = 0
      · subst q0
        refine (takeOK A n c l xo bo ko 0 _ (hX.drewN _) HN3 hO).mono ?_; rintro e w7 ⟨A7, c7, rfl, hS7, hB7⟩
        replace hX := (hX.drewN _).below hB7
        replace HB := Lib.hid (nx (below_drewN HB.out _) hB7)
        clear hB7
        obtain ⟨hk1, hk2, y1, y2⟩ := takeO_ok l xo bo ko hO.out
        clear y1 y2
        rw [HLN.out] at hk2
        go_wp2_with fail
        refine (optK A7 c7 l xo bo ko w7 hS7 hO).mono ?_; rintro e w8 ⟨A8, c8, rfl, hS8, hB8⟩
        replace hX := hX.below hB8
        replace HB := Lib.hid (nx HB.out hB8)
        clear hB8 hS7
        go_wp2_with fail
        have q1 := fun j => (hS8.drewN j).str (P := Try.prog) Try.underlying23 Try.underlying5 Try.underlying9
        have hP := hX.pre hk2
        rw [← bv_take] at hP
        have q2 := fun j => (hP.drewN j).str (P := Try.prog) Try.underlying23 Try.underlying5 Try.underlying9
        have z1 : (1 : Int) ≤ (ko : Int) := by omega
        have z2 : (ko : Int) ≤ (n : Int) := by omega
        have z3 : (0 : Int) ≤ (ko : Int) := by omega
        have z4 : (ko : Int) ≤ (c : Int) := by have := hX.cap; omega
        have d1 : decide (1 ≤ (ko : Int)) = true := by simp; omega
        have d2 : decide (ko ≤ n) = true := by simp; omega
        have d3 : decide ((ko : Int) ≤ (n : Int)) = true := by simp; omega
        go_quiet (fail)
        go_wp2_with fail
        go_ret
        exact ⟨rfl, below_drewN HB.out _⟩
      · refine (takeOE A n c l xo bo ko qo _ (hX.drewN _) HN3 hO q0).mono ?_; rintro e w7 ⟨m7, A7, c7, rfl, hB7⟩
        replace HB := Lib.hid (nx (below_drewN HB.out _) hB7)
        clear hB7
        have q1 : ((qo : Int) == 0) = false := by simp; omega
        have q2 : (qo == 0) = false := by simp; omega
        clear hX hO hn HN3 HN4
        go_wp2_with fail
        go_ret
        exact ⟨rfl, HB.out⟩

theorem oneWalk (A : Option Addr) (n c : Nat) (zs : List Int) (w : World) (h : IsRow .u8 w A n c zs) (hn : n * 1 ≤ 140737488351232) :
    Calls Try.prog 8 #[.slice A n c] w fun e w' => e = .returned (.bool true) ∧ Below w.heap.size w w' := by
  obtain ⟨l, hs, _⟩ := h.bytes
  by_cases hb : 100000 < (n : Int) + 1
  · exact oneBig A n c w (Lib.hid (by omega)) hb
  · exact oneSmall A n c l w hs hb
end Go.Proofs.Ytjebmmmjjiomfaa
