/- The walks of the reference's Same, slices.Equal, SameInts, shape.Alike. -/
import Derived.Test.YtejoiamdhjhjhaaCanon
namespace Go.Proofs.Ytejoiamdhjhjhaa
open Go.RowKit

set_option maxHeartbeats 1000000 in
theorem same_yes (A B : Option Addr) (n c d : Nat) (l : List St) (w : World) (h : Ss w A n c l) (k : Ss w B n d l) :
    Calls Try.prog 13 #[.slice A n c, .slice B n d] w fun e w' => e = .returned (.bool true) ∧ Below w.heap.size w w' := by
  have htop := h.top; have hcap := h.cap; unfold maxLen at htop
  go_enter Try.func13, Try.ntmps13
  have t : ((n : Int) != (n : Int)) = false := by simp
  go_wp2_with fail
  go_loopw [5, 13] (fun _ i wr => ∃ j q : Nat, j ≤ n ∧ i = .int .i64 (j : Int) ∧ wr = w.drewN q) (fun _ i _ => n - (intOf i).toNat)
  case atStart => exact ⟨0, 0, Nat.zero_le _, rfl, rfl⟩
  case round =>
    obtain ⟨j, q, hj, rfl, rfl⟩ := hrel
    by_cases hlt : j < n
    · obtain ⟨ad, s, rfl, hs, h1, h2, h3⟩ := h.at_ hlt
      obtain ⟨bd, s', rfl, hs', k1, k2, k3⟩ := k.at_ hlt
      obtain rfl : s = s' := Option.some.inj (hs.symm.trans hs')
      have i1 : (j : Int) < (n : Int) := by omega
      clear hs hs'
      go_wp2_with fail
      go_quiet (fail)
      go_wp2_with fail
      go_roundw
      case rel => exact ⟨j + 1, _, by omega, by go_num, rfl⟩
      case measure => simp [intOf]; omega
    · obtain rfl : j = n := by omega
      go_wp2_with fail
      go_ret
      exact ⟨rfl, below_drewN (Below.refl _ _) _⟩
set_option maxRecDepth 100000 in
set_option maxHeartbeats 2000000 in
theorem equal_any (A B : Option Addr) (n m c d : Nat) (l l' : List St) (w : World) (h : Ss w A n c l) (k : Ss w B m d l') :
    Calls Try.prog 27 #[.slice A n c, .slice B m d] w fun e w' => ∃ b, e = .returned (.bool b) ∧ (b = true → l = l') ∧ Below w.heap.size w w' := by
  have htop := h.top; have hcap := h.cap; unfold maxLen at htop
  by_cases hnm : n = m
  · subst hnm
    have HL := Lib.hid h.len
    have HK := Lib.hid k.len
    go_enter Try.func27, Try.ntmps27
    have t : ((n : Int) != (n : Int)) = false := by simp
    go_wp2_with fail
    go_loopw [5, 13] (fun _ i wr => ∃ j q : Nat, j ≤ n ∧ i = .int .i64 (j : Int) ∧ Hid (∀ i, i < j → l[i]? = l'[i]?) ∧ wr = w.drewN q) (fun _ i _ => n - (intOf i).toNat)
    case atStart => exact ⟨0, 0, Nat.zero_le _, rfl, fun i hi => absurd hi (Nat.not_lt_zero _), rfl⟩
    case round =>
      obtain ⟨j, q, hj, rfl, hall, rfl⟩ := hrel
      by_cases hlt : j < n
      · obtain ⟨ad, s, rfl, hs, h1, h2, h3⟩ := h.at_ hlt
        obtain ⟨bd, s', rfl, hs', k1, k2, k3⟩ := k.at_ hlt
        have i1 : (j : Int) < (n : Int) := by omega
        by_cases hss : s = s'
        · subst hss
          have HA : Hid (∀ i, i < j + 1 → l[i]? = l'[i]?) := Lib.hid (fun i hi => by
            by_cases e : i = j
            · subst e; rw [hs, hs']
            · exact hall.out i (by omega))
          clear hs hs'
          go_wp2_with fail
          go_quiet (fail)
          go_wp2_with fail
          go_roundw
          case rel => exact ⟨j + 1, _, by omega, by go_num, HA, rfl⟩
          case measure => simp [intOf]; omega
        · obtain ⟨a1, a2, a3⟩ := s
          obtain ⟨b1, b2, b3⟩ := s'
          simp only at h1 h2 h3 k1 k2 k3
          clear hs hs'
          by_cases e1 : a1 = b1
          · subst e1
            by_cases e2 : a2 = b2
            · subst e2
              have e3 : a3 ≠ b3 := fun e => hss (by rw [e])
              have t3 : (a3 == b3) = false := by rw [beq_eq_false_iff_ne]; exact e3
              clear hss
              go_wp2_with fail
              go_quiet (fail)
              go_wp2_with fail
              go_ret
              exact ⟨false, rfl, nofun, below_drewN (below_drewN (Below.refl _ _) _) _⟩
            · have t3 : (a2 == b2) = false := by rw [beq_eq_false_iff_ne]; exact e2
              clear hss
              go_wp2_with fail
              go_quiet (fail)
              go_wp2_with fail
              go_ret
              exact ⟨false, rfl, nofun, below_drewN (below_drewN (Below.refl _ _) _) _⟩
          · have t3 : (a1 == b1) = false := by rw [beq_eq_false_iff_ne]; exact e1
            clear hss
            go_wp2_with fail
            go_quiet (fail)
            go_wp2_with fail
            go_ret
            exact ⟨false, rfl, nofun, below_drewN (below_drewN (Below.refl _ _) _) _⟩
      · obtain rfl : j = n := by omega
        go_wp2_with fail
        go_ret
        refine ⟨true, rfl, fun _ => List.ext_getElem? fun i => ?_, below_drewN (Below.refl _ _) _⟩
        by_cases e : i < j
        · exact hall.out i e
        · rw [List.getElem?_eq_none (by rw [HL.out]; omega), List.getElem?_eq_none (by rw [HK.out]; omega)]
  · have t : ((n : Int) != (m : Int)) = true := by rw [bne_iff_ne]; omega
    go_enter Try.func27, Try.ntmps27
    go_wp2_with fail
    go_ret
    exact ⟨false, rfl, nofun, Below.refl _ _⟩
set_option maxHeartbeats 1000000 in
theorem equal_yes (A B : Option Addr) (n c d : Nat) (l : List St) (w : World) (h : Ss w A n c l) (k : Ss w B n d l) :
    Calls Try.prog 27 #[.slice A n c, .slice B n d] w fun e w' => e = .returned (.bool true) ∧ Below w.heap.size w w' := by
  have htop := h.top; have hcap := h.cap; unfold maxLen at htop
  go_enter Try.func27, Try.ntmps27
  have t : ((n : Int) != (n : Int)) = false := by simp
  go_wp2_with fail
  go_loopw [5, 13] (fun _ i wr => ∃ j q : Nat, j ≤ n ∧ i = .int .i64 (j : Int) ∧ wr = w.drewN q) (fun _ i _ => n - (intOf i).toNat)
  case atStart => exact ⟨0, 0, Nat.zero_le _, rfl, rfl⟩
  case round =>
    obtain ⟨j, q, hj, rfl, rfl⟩ := hrel
    by_cases hlt : j < n
    · obtain ⟨ad, s, rfl, hs, h1, h2, h3⟩ := h.at_ hlt
      obtain ⟨bd, s', rfl, hs', k1, k2, k3⟩ := k.at_ hlt
      obtain rfl : s = s' := Option.some.inj (hs.symm.trans hs')
      have i1 : (j : Int) < (n : Int) := by omega
      clear hs hs'
      go_wp2_with fail
      go_quiet (fail)
      go_wp2_with fail
      go_roundw
      case rel => exact ⟨j + 1, _, by omega, by go_num, rfl⟩
      case measure => simp [intOf]; omega
    · obtain rfl : j = n := by omega
      go_wp2_with fail
      go_ret
      exact ⟨rfl, below_drewN (Below.refl _ _) _⟩

set_option maxHeartbeats 1000000 in
theorem ints_yes (A B : Option Addr) (n c d : Nat) (l : List Int) (w : World) (h : Sl w A n c (iv l)) (k : Sl w B n d (iv l)) :
    Calls Try.prog 16 #[.slice A n c, .slice B n d] w fun e w' => e = .returned (.bool true) ∧ Below w.heap.size w w' := by
  have htop := h.top; have hcap := h.cap; unfold maxLen at htop
  go_enter Try.func16, Try.ntmps16
  have t : ((n : Int) != (n : Int)) = false := by simp
  go_wp2_with fail
  go_loopw [5, 13] (fun _ i wr => ∃ j q : Nat, j ≤ n ∧ i = .int .i64 (j : Int) ∧ wr = w.drewN q) (fun _ i _ => n - (intOf i).toNat)
  case atStart => exact ⟨0, 0, Nat.zero_le _, rfl, rfl⟩
  case round =>
    obtain ⟨j, q, hj, rfl, rfl⟩ := hrel
    by_cases hlt : j < n
    · obtain ⟨ad, hl, rfl, hc⟩ := h.int hlt
      obtain ⟨bd, _, rfl, hd⟩ := k.int hlt
      have i1 : (j : Int) < (n : Int) := by omega
      have t2 : ((l[j]'hl) != (l[j]'hl)) = false := by simp
      go_wp2_with fail
      go_quiet (fail)
      go_wp2_with fail
      go_roundw
      case rel => exact ⟨j + 1, _, by omega, by go_num, rfl⟩
      case measure => simp [intOf]; omega
    · obtain rfl : j = n := by omega
      go_wp2_with fail
      go_ret
      exact ⟨rfl, below_drewN (Below.refl _ _) _⟩
theorem Ow.ss {w : World} {base n c : Nat} {l : List St} {A : Option Addr} (h : Ow w base 31 3 A n c (svs l)) (hl : l.length = n) : Ss w A n c l := by
  rcases h.2 with ⟨hv, h0⟩ | ⟨g', cap, cur, hv, _, hh, h1, h2, h3, h4⟩
  · injection hv with e1 e2 e3; subst e1; subst e2; subst e3
    obtain rfl : l = [] := List.eq_nil_of_length_eq_zero hl
    exact Ss.none w
  · injection hv with e1 e2 e3; subst e1; subst e3
    exact Ss.of_lies hl h1 h2 h.lies
end Go.Proofs.Ytejoiamdhjhjhaa
