/- The walk of the reference's (chapter Ratchet) Members. -/
import Derived.Test.YtieeinppoiihpaaDoorR7Check
namespace Go.Proofs.YtieeinppoiihpaaDoor
open Go.RowKit

/-- the members ahead of a number -/
def memT (t : List TN) : Nat → List Int
  | 0 => []
  | k + 1 => memT t k ++ (if kd t (2 * k) = 1 then [(k : Int)] else [])
theorem mem_memT {t : List TN} : ∀ {k : Nat} {i : Int}, i ∈ memT t k → ∃ j : Nat, i = j ∧ j < k ∧ kd t (2 * j) = 1
  | k + 1, i, h => by
    unfold memT at h
    rcases List.mem_append.1 h with h | h
    · obtain ⟨j, h1, h2, h3⟩ := mem_memT h
      exact ⟨j, h1, by omega, h3⟩
    · split at h
      · rename_i hk
        simp at h
        exact ⟨k, h, by omega, hk⟩
      · simp at h
theorem memT_len (t : List TN) : ∀ k, (memT t k).length ≤ k
  | 0 => Nat.le_refl _
  | k + 1 => by
    have := memT_len t k
    unfold memT
    rw [List.length_append]
    split <;> simp <;> omega
theorem memT_yes {t : List TN} {k : Nat} (h : kd t (2 * k) = 1) : memT t (k + 1) = memT t k ++ [(k : Int)] := by rw [memT, if_pos h]
theorem memT_no {t : List TN} {k : Nat} (h : kd t (2 * k) ≠ 1) : memT t (k + 1) = memT t k := by rw [memT, if_neg h, List.append_nil]
set_option maxRecDepth 100000 in
set_option maxHeartbeats 4000000 in
theorem members_ok (A : Option Addr) (n c : Nat) (t : List TN) (w : World) (h : Ts w A n c t) (hn : n ≤ 140) (hu : Hid (∀ s ∈ t, s.un.length ≤ 1000)) (hC : Hid (ChkT t)) :
    Calls Tryd.prog 40 #[.slice A n c] w fun e w' => ∃ B d, e = .returned (.slice B (memT t (lvs t)).length d) ∧ Ow w' w.heap.size 3 1 B (memT t (lvs t)).length d (iv (memT t (lvs t))) ∧ Below w.heap.size w w' := by
  have HC := Lib.hid (check7_ok A n c t w h hn hu)
  rw [chk_yes hC.out] at HC
  have hl : n + 1 = 2 * lvs t := by have := hC.out.2.1; rwa [h.len] at this
  obtain ⟨N, hN⟩ : ∃ N, lvs t = N := ⟨_, rfl⟩
  have hs := hC.out.1
  rw [hN] at hl hs ⊢
  have H7 := Lib.hid (fun W => leaves7_yes A n c N W hs hl)
  clear hs hN hu
  go_enter Tryd.func40, Tryd.ntmps40
  go_wp2_with fail
  refine HC.out.mono ?_; rintro e w1 ⟨rfl, hB1⟩
  have h1 := h.below hB1
  go_wp2_with fail
  refine (H7.out _).mono ?_; rintro e w' ⟨rfl, rfl⟩
  go_wp2_with fail
  go_loopw [3, 10] (fun v i wr => ∃ (k : Nat) (B : Option Addr) (d : Nat) (o : List Int), k ≤ N ∧ i = .int .i64 (k : Int) ∧ v = .slice B o.length d ∧ Hid (o = memT t k) ∧ Ow wr w.heap.size 3 1 B o.length d (iv o) ∧ Below w.heap.size w wr) (fun _ i _ => N - (intOf i).toNat)
  case atStart => exact ⟨0, none, 0, [], Nat.zero_le _, rfl, rfl, Lib.hid rfl, Ow.nil _ _ _ _, hB1⟩
  case round =>
    obtain ⟨k, B, d, o, hk, rfl, rfl, HO, hO, hB⟩ := hrel
    by_cases hlt : k < N
    · obtain ⟨ad, s, U, m, q, rfl, hks, hat⟩ := (h.below hB).at_ (show 2 * k < n by omega)
      have c0 := hat.c0
      have HK := Lib.hid (kd_at hks)
      have hol : o.length ≤ k := by rw [HO.out]; exact memT_len t k
      have i1 : 2 * (k : Int) < (n : Int) := by omega
      have i2 : (0 : Int) ≤ 2 * (k : Int) := by omega
      have e1 : 2 * (k : Int) = ((2 * k : Nat) : Int) := by omega
      obtain ⟨j, hj⟩ : ∃ j, 2 * k = j := ⟨_, rfl⟩
      have HMY : Hid (kd t j = 1 → memT t (k + 1) = memT t k ++ [(k : Int)]) := Lib.hid (fun q => memT_yes (by rw [hj]; exact q))
      have HMN : Hid (kd t j ≠ 1 → memT t (k + 1) = memT t k) := Lib.hid (fun q => memT_no (by rw [hj]; exact q))
      rw [hj] at c0 e1 HK
      rw [e1] at i1 i2
      clear hks hat hj
      by_cases hk1 : s.k = 1
      · have t1 : (s.k == 1) = true := by rw [beq_iff_eq]; exact hk1
        have HM2 : Hid (o ++ [(k : Int)] = memT t (k + 1)) := Lib.hid (by rw [HMY.out (by rw [HK.out]; exact hk1), HO.out])
        clear hk1
        go_wp2_with (at_builtin; refine wpList_app (o := ⟨some 23, _, _, _, _, _⟩) E23 rfl rfl rfl (hO.alloc _) rfl (lies_new wr _ 3) rfl (by simp [Value.oneCell']) (by unfold maxLen; omega) (by omega) (by have := hB.size; simp; omega) ?_; intro A4 c4 w4 hO4 hG4 hB4; have hb4 : Below w.heap.size w w4 := (hB.alloc hB.size _).trans hB4; clear hG4 hB4 hO hB)
        go_roundw
        case rel => exact ⟨k + 1, A4, c4, o ++ [(k : Int)], by omega, by go_num, by rw [List.length_append]; rfl, HM2, by rw [List.length_append, iv_snoc]; exact hO4, hb4⟩
        case measure => simp [intOf]; omega
      · have t1 : (s.k == 1) = false := by rw [beq_eq_false_iff_ne]; exact hk1
        have HM2 : Hid (o = memT t (k + 1)) := Lib.hid (by rw [HMN.out (by rw [HK.out]; exact hk1), HO.out])
        clear hk1
        go_wp2_with fail
        go_roundw
        case rel => exact ⟨k + 1, B, d, o, by omega, by go_num, rfl, HM2, hO, hB⟩
        case measure => simp [intOf]; omega
    · obtain rfl : k = N := by omega
      go_wp2_with fail
      go_ret
      exact ⟨B, d, by rw [← HO.out]; rfl, by rw [← HO.out]; exact hO, hB⟩
end Go.Proofs.YtieeinppoiihpaaDoor
