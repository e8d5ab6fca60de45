/- The walk of the reference's perm. -/
import Derived.Test.YtejoiamdhjhjhaaRising
namespace Go.Proofs.Ytejoiamdhjhjhaa
open Go.RowKit

def PermIs (e : Ending) (p : List Int) : Prop := ∃ b, e = .returned (.bool b) ∧ (b = true ↔ IsP p)
theorem rgi_take_all (r : List Int) (n : Nat) (hl : r.length = n) (h : ∀ j, j < n → r[j]? = some (j : Int)) : r = rgi n (fun j => (j : Int)) := by
  apply List.ext_getElem?; intro j
  by_cases hj : j < n
  · rw [h j hj, rgi_get n _ j hj]
  · rw [List.getElem?_eq_none (by omega), List.getElem?_eq_none (by rw [rgi_len]; omega)]
theorem perm_ok (A : Option Addr) (n c : Nat) (p : List Int) (w : World) (h : Sl w A n c (iv p)) (hn : n ≤ 1000) :
    Calls Try.prog 31 #[.slice A n c] w fun e w' => PermIs e p ∧ Below w.heap.size w w' := by
  have HL : Hid (p.length = n) := by have := h.len; rwa [iv_length] at this
  have H1 := Lib.hid (rising_ok A n c p w h hn)
  go_enter Try.func31, Try.ntmps31
  go_wp2_with fail
  refine H1.out.mono ?_
  rintro e w1 ⟨r, A1, c1, rfl, hR, hle, hO, hB⟩
  have HR := Lib.hid hR
  have hS := hO.sl
  obtain ⟨N, hN⟩ : ∃ N, r.length = N := ⟨_, rfl⟩
  rw [hN] at hS hle ⊢
  have HN := Lib.hid hN
  have hct := hS.top
  have hcc := hS.cap
  unfold maxLen at hct
  rw [HL.out] at hle
  clear hN hR hO H1
  go_wp2_with fail
  go_loop [10] (fun i => ∃ k : Nat, k ≤ N ∧ i = .int .i64 (k : Int) ∧ Hid (∀ j : Nat, j < k → r[j]? = some (j : Int))) (fun i => N - (intOf i).toNat)
  case atStart => exact ⟨0, Nat.zero_le _, rfl, Lib.hid (fun j hj => absurd hj (Nat.not_lt_zero _))⟩
  case round =>
    obtain ⟨k, hk, rfl, ha⟩ := hrel
    by_cases hlt : k < N
    · obtain ⟨ad, hl, rfl, hc⟩ := hS.int hlt
      obtain ⟨y, hy⟩ : ∃ y, r[k]'hl = y := ⟨_, rfl⟩
      have hy2 : r[k]? = some y := by rw [List.getElem?_eq_getElem hl, hy]
      rw [hy] at hc
      have HY := Lib.hid hy2
      clear hy hy2
      by_cases e : y = (k : Int)
      · subst e
        have t : ((k : Int) == (k : Int)) = true := by simp
        have HA2 : Hid (∀ j : Nat, j < k + 1 → r[j]? = some (j : Int)) := Lib.hid (fun j hj => by
          rcases Nat.lt_or_eq_of_le (Nat.le_of_lt_succ hj) with q | q
          · exact ha.out j q
          · subst q; exact HY.out)
        go_wp2_with fail
        go_round
        case rel => exact ⟨k + 1, by omega, by go_num, HA2⟩
        case measure => simp [intOf]; omega
      · have t : (y == (k : Int)) = false := by rw [beq_eq_false_iff_ne]; exact e
        have HE : Hid (¬ IsP p) := Lib.hid (fun hp => e (by
          have h1 := rise_isP HR.out hp
          have h2 : k < p.length := by have := HN.out; rw [h1, rgi_len] at this; omega
          have h3 := HY.out
          rw [h1, rgi_get _ _ k h2] at h3
          injection h3 with h3; exact h3.symm))
        clear e
        go_wp2_with fail
        go_ret
        exact ⟨⟨false, rfl, ⟨nofun, fun hp => absurd hp HE.out⟩⟩, hB⟩
    · obtain rfl : k = N := by omega
      have hr : r = rgi k (fun j => (j : Int)) := rgi_take_all r k HN.out ha.out
      by_cases e : k = n
      · subst e
        have t : ((k : Int) == (k : Int)) = true := by simp
        have HE : Hid (IsP p) := Lib.hid (isP_of (by rw [← hr]; exact HR.out) HL.out.symm)
        clear hr
        go_wp2_with fail
        go_ret
        exact ⟨⟨_, rfl, ⟨fun _ => HE.out, fun _ => by simp⟩⟩, hB⟩
      · have t : ((k : Int) == (n : Int)) = false := by rw [beq_eq_false_iff_ne]; omega
        have HE : Hid (¬ IsP p) := Lib.hid (fun hp => e (by
          have h1 := rise_isP HR.out hp
          have := HN.out; rw [h1, rgi_len, HL.out] at this; exact this.symm))
        clear hr e
        go_wp2_with fail
        go_ret
        exact ⟨⟨false, by first | rfl | simp [t], ⟨nofun, fun hp => absurd hp HE.out⟩⟩, hB⟩
end Go.Proofs.Ytejoiamdhjhjhaa
