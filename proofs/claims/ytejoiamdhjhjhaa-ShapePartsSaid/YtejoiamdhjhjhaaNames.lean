/- The walks of the reference's names, In, place. -/
import Derived.Test.YtejoiamdhjhjhaaBackWalk
namespace Go.Proofs.Ytejoiamdhjhjhaa
open Go.RowKit

/-- does a step name the one, the other -/
def nm1 (d : Int) : Bool := decide (1 ∈ nm d)
def nm2 (d : Int) : Bool := decide (2 ∈ nm d)
theorem names_ok (s : St) (w : World) :
    Calls Try.prog 32 #[.agg #[.int .i64 s.d, .int .i64 s.who, .int .i64 s.of]] w fun e w' => e = .returned (.tuple #[.bool (nm1 s.d), .bool (nm2 s.d)]) ∧ Below w.heap.size w w' := by
  obtain ⟨d, a, b⟩ := s
  show Calls Try.prog 32 #[.agg #[.int .i64 d, .int .i64 a, .int .i64 b]] w fun e w' => e = .returned (.tuple #[.bool (nm1 d), .bool (nm2 d)]) ∧ Below w.heap.size w w'
  by_cases h1 : d = 1 ∨ d = 3 ∨ d = 5 ∨ d = 6
  · have e1 : nm1 d = true := by unfold nm1 nm; rw [if_pos h1]; rfl
    have e2 : nm2 d = false := by unfold nm2 nm; rw [if_pos h1]; rfl
    rw [e1, e2]
    rcases h1 with rfl | rfl | rfl | rfl
    all_goals
      clear e1 e2
      go_enter Try.func32, Try.ntmps32
      go_wp2
      go_ret2
      exact ⟨rfl, (Below.refl _ w).alloc (Nat.le_refl _) _⟩
  · by_cases h2 : d = 2 ∨ d = 4
    · have e1 : nm1 d = true := by unfold nm1 nm; rw [if_neg h1, if_pos h2]; rfl
      have e2 : nm2 d = true := by unfold nm2 nm; rw [if_neg h1, if_pos h2]; rfl
      rw [e1, e2]
      rcases h2 with rfl | rfl
      all_goals
        clear e1 e2 h1
        go_enter Try.func32, Try.ntmps32
        go_wp2
        go_ret2
        exact ⟨rfl, (Below.refl _ w).alloc (Nat.le_refl _) _⟩
    · have e1 : nm1 d = false := by unfold nm1 nm; rw [if_neg h1, if_neg h2]; rfl
      have e2 : nm2 d = false := by unfold nm2 nm; rw [if_neg h1, if_neg h2]; rfl
      rw [e1, e2]
      have t1 : (d == 1) = false := by rw [beq_eq_false_iff_ne]; omega
      have t2 : (d == 2) = false := by rw [beq_eq_false_iff_ne]; omega
      have t3 : (d == 3) = false := by rw [beq_eq_false_iff_ne]; omega
      have t4 : (d == 4) = false := by rw [beq_eq_false_iff_ne]; omega
      have t5 : (d == 5) = false := by rw [beq_eq_false_iff_ne]; omega
      have t6 : (d == 6) = false := by rw [beq_eq_false_iff_ne]; omega
      clear h1 h2 e1 e2
      go_enter Try.func32, Try.ntmps32
      go_wp2
      go_ret2
      exact ⟨rfl, (Below.refl _ w).alloc (Nat.le_refl _) _⟩
theorem take_not {l : List Int} {k : Nat} {x y : Int} (hk : l[k]? = some y) (hn : x ∉ l.take k) (hy : x ≠ y) : x ∉ l.take (k + 1) := by
  rw [List.take_add_one, hk, Option.toList_some]
  intro h
  rcases List.mem_append.1 h with h | h
  · exact hn h
  · simp at h; exact hy h
theorem in_ok (A : Option Addr) (n c : Nat) (l : List Int) (x : Int) (w : World) (h : Sl w A n c (iv l)) :
    Calls Try.prog 34 #[.slice A n c, .int .i64 x] w fun e w' => e = .returned (.bool (decide (x ∈ l))) ∧ w = w' := by
  have htop := h.top; have hcap := h.cap; unfold maxLen at htop
  have HL : Hid (l.length = n) := by have := h.len; rwa [iv_length] at this
  go_enter Try.func34, Try.ntmps34
  go_wp2_with fail
  go_loop [9] (fun i => ∃ k : Nat, k ≤ n ∧ i = .int .i64 k ∧ Hid (x ∉ l.take k)) (fun i => n - (intOf i).toNat)
  case atStart => exact ⟨0, Nat.zero_le _, rfl, Lib.hid (by simp)⟩
  case round =>
    obtain ⟨k, hk, rfl, ha⟩ := hrel
    by_cases hlt : k < n
    · obtain ⟨ad, hl, rfl, hc⟩ := h.int hlt
      obtain ⟨y, hy⟩ : ∃ y, l[k]'hl = y := ⟨_, rfl⟩
      have hy2 : l[k]? = some y := by rw [List.getElem?_eq_getElem hl, hy]
      rw [hy] at hc
      by_cases e : x = y
      · subst e
        have t : (x == x) = true := by simp
        have HM := Lib.hid (List.mem_of_getElem? hy2)
        clear hy hy2
        go_wp2_with fail
        go_ret
        exact ⟨by rw [decide_eq_true HM.out]; rfl, rfl⟩
      · have t : (y == x) = false := by rw [beq_eq_false_iff_ne]; exact fun q => e q.symm
        have HN := Lib.hid (take_not hy2 ha.out e)
        clear hy hy2 e
        go_wp2_with fail
        go_round
        case rel => exact ⟨k + 1, by omega, by go_num, HN⟩
        case measure => simp [intOf]; omega
    · obtain rfl : k = n := by omega
      have hno : x ∉ l := by have := ha.out; rwa [← HL.out, List.take_length] at this
      have HN := Lib.hid hno
      clear hno
      go_wp2_with fail
      go_ret
      exact ⟨by rw [decide_eq_false HN.out]; rfl, rfl⟩
def plc (l : List Int) (x : Int) : Int := if x ∈ l then (idx l x : Int) else -1
theorem place_ok (A : Option Addr) (n c : Nat) (l : List Int) (x : Int) (w : World) (h : Sl w A n c (iv l)) :
    Calls Try.prog 33 #[.slice A n c, .int .i64 x] w fun e w' => e = .returned (.int .i64 (plc l x)) ∧ w = w' := by
  have htop := h.top; have hcap := h.cap; unfold maxLen at htop
  have HL : Hid (l.length = n) := by have := h.len; rwa [iv_length] at this
  go_enter Try.func33, Try.ntmps33
  go_wp2_with fail
  go_loop [9] (fun i => ∃ k : Nat, k ≤ n ∧ i = .int .i64 k ∧ Hid (x ∉ l.take k)) (fun i => n - (intOf i).toNat)
  case atStart => exact ⟨0, Nat.zero_le _, rfl, Lib.hid (by simp)⟩
  case round =>
    obtain ⟨k, hk, rfl, ha⟩ := hrel
    by_cases hlt : k < n
    · obtain ⟨ad, hl, rfl, hc⟩ := h.int hlt
      obtain ⟨y, hy⟩ : ∃ y, l[k]'hl = y := ⟨_, rfl⟩
      have hy2 : l[k]? = some y := by rw [List.getElem?_eq_getElem hl, hy]
      rw [hy] at hc
      by_cases e : x = y
      · subst e
        have t : (x == x) = true := by simp
        have HM : Hid (plc l x = (k : Int)) := Lib.hid (by unfold plc; rw [if_pos (List.mem_of_getElem? hy2), idx_first l k x hy2 ha.out])
        clear hy hy2
        go_wp2_with fail
        go_ret
        exact ⟨by rw [HM.out]; rfl, rfl⟩
      · have t : (y == x) = false := by rw [beq_eq_false_iff_ne]; exact fun q => e q.symm
        have HN := Lib.hid (take_not hy2 ha.out e)
        clear hy hy2 e
        go_wp2_with fail
        go_round
        case rel => exact ⟨k + 1, by omega, by go_num, HN⟩
        case measure => simp [intOf]; omega
    · obtain rfl : k = n := by omega
      have hno : x ∉ l := by have := ha.out; rwa [← HL.out, List.take_length] at this
      have HN : Hid (plc l x = -1) := Lib.hid (by unfold plc; rw [if_neg hno])
      clear hno
      go_wp2_with fail
      go_ret
      exact ⟨by rw [HN.out]; rfl, rfl⟩
end Go.Proofs.Ytejoiamdhjhjhaa
