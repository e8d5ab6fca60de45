/- The walks of the reference's Same and Alike, told whole. -/
import Derived.Test.YtejoiamdhjhjhaaRefKinds
namespace Go.Proofs.Ytejoiamdhjhjhaa
open Go.RowKit

set_option maxRecDepth 100000 in
set_option maxHeartbeats 2000000 in
theorem same_any (A B : Option Addr) (n m c d : Nat) (l l' : List St) (w : World) (h : Ss w A n c l) (k : Ss w B m d l') :
    Calls Try.prog 13 #[.slice A n c, .slice B m d] w fun e w' => ∃ b, e = .returned (.bool b) ∧ (b = true → l = l') ∧ Below w.heap.size w w' := by
  have htop := h.top; have hcap := h.cap; unfold maxLen at htop
  by_cases hnm : n = m
  · subst hnm
    have HL := Lib.hid h.len
    have HK := Lib.hid k.len
    go_enter Try.func13, Try.ntmps13
    have t : ((n : Int) != (n : Int)) = false := by simp
    go_wp2_with fail
    go_loopw [5, 13] (fun _ i wr => ∃ j q : Nat, j ≤ n ∧ i = .int .i64 (j : Int) ∧ Hid (∀ i, i < j → l[i]? = l'[i]?) ∧ wr = w.drewN q) (fun _ i _ => n - (intOf i).toNat)
    case atStart => exact ⟨0, 0, Nat.zero_le _, rfl, fun i hi => absurd hi (Nat.not_lt_zero _), rfl⟩
    case round =>
      obtain ⟨j, q, hj, rfl, hall, rfl⟩ := hrel
      by_cases hlt : j < n
      · obtain ⟨ad, s, rfl, hs, h1, h2, h3⟩ := h.at_ hlt
        obtain ⟨bd, s', rfl, hs', k1, k2, k3⟩ := k.at_ hlt
        have i1 : (j : Int) < (n : Int) := by omega
        by_cases hss : s = s'
        · subst hss
          have HA : Hid (∀ i, i < j + 1 → l[i]? = l'[i]?) := Lib.hid (fun i hi => by
            by_cases e : i = j
            · subst e; rw [hs, hs']
            · exact hall.out i (by omega))
          clear hs hs'
          go_wp2_with fail
          go_quiet (fail)
          go_wp2_with fail
          go_roundw
          case rel => exact ⟨j + 1, _, by omega, by go_num, HA, rfl⟩
          case measure => simp [intOf]; omega
        · obtain ⟨a1, a2, a3⟩ := s
          obtain ⟨b1, b2, b3⟩ := s'
          simp only at h1 h2 h3 k1 k2 k3
          clear hs hs'
          by_cases e1 : a1 = b1
          · subst e1
            by_cases e2 : a2 = b2
            · subst e2
              have e3 : a3 ≠ b3 := fun e => hss (by rw [e])
              have t3 : (a3 == b3) = false := by rw [beq_eq_false_iff_ne]; exact e3
              clear hss
              go_wp2_with fail
              go_quiet (fail)
              go_wp2_with fail
              go_ret
              exact ⟨false, rfl, nofun, below_drewN (below_drewN (Below.refl _ _) _) _⟩
            · have t3 : (a2 == b2) = false := by rw [beq_eq_false_iff_ne]; exact e2
              clear hss
              go_wp2_with fail
              go_quiet (fail)
              go_wp2_with fail
              go_ret
              exact ⟨false, rfl, nofun, below_drewN (below_drewN (Below.refl _ _) _) _⟩
          · have t3 : (a1 == b1) = false := by rw [beq_eq_false_iff_ne]; exact e1
            clear hss
            go_wp2_with fail
            go_quiet (fail)
            go_wp2_with fail
            go_ret
            exact ⟨false, rfl, nofun, below_drewN (below_drewN (Below.refl _ _) _) _⟩
      · obtain rfl : j = n := by omega
        go_wp2_with fail
        go_ret
        refine ⟨true, rfl, fun _ => List.ext_getElem? fun i => ?_, below_drewN (Below.refl _ _) _⟩
        by_cases e : i < j
        · exact hall.out i e
        · rw [List.getElem?_eq_none (by rw [HL.out]; omega), List.getElem?_eq_none (by rw [HK.out]; omega)]
  · have t : ((n : Int) != (m : Int)) = true := by rw [bne_iff_ne]; omega
    go_enter Try.func13, Try.ntmps13
    go_wp2_with fail
    go_ret
    exact ⟨false, rfl, nofun, Below.refl _ _⟩
instance decSt : DecidableEq St := fun a b => if h : a.d = b.d ∧ a.who = b.who ∧ a.of = b.of then isTrue (by cases a; cases b; simp_all) else isFalse (by intro e; subst e; exact h ⟨rfl, rfl, rfl⟩)
theorem same_dec (A B : Option Addr) (n m c d : Nat) (l l' : List St) (w : World) (h : Ss w A n c l) (k : Ss w B m d l') :
    Calls Try.prog 13 #[.slice A n c, .slice B m d] w fun e w' => e = .returned (.bool (decide (l = l'))) ∧ Below w.heap.size w w' := by
  by_cases e : l = l'
  · subst e
    obtain rfl : n = m := h.len.symm.trans k.len
    rw [decide_eq_true rfl]
    exact same_yes A B n c d l w h k
  · rw [decide_eq_false e]
    refine (same_any A B n m c d l l' w h k).mono ?_
    rintro e' w' ⟨b, rfl, hb, hB⟩
    cases b
    · exact ⟨rfl, hB⟩
    · exact absurd (hb rfl) e
theorem can_length (l : List St) : (canL l).length = l.length := by rw [canL, List.length_map]
theorem ralike_dec (A B : Option Addr) (n m c d : Nat) (l l' : List St) (w : World) (h : Ss w A n c l) (k : Ss w B m d l') (hn : n ≤ 1000) (hm : m ≤ 1000) :
    Calls Try.prog 24 #[.slice A n c, .slice B m d] w fun e w' => e = .returned (.bool (decide (canL l = canL l'))) ∧ Below w.heap.size w w' := by
  have H1 := Lib.hid (fun W hW => rcan_ok A n c l W hW hn)
  have H2 := Lib.hid (fun W hW => rcan_ok B m d l' W hW hm)
  have HL := Lib.hid h.len
  have HK := Lib.hid k.len
  go_enter Try.func24, Try.ntmps24
  go_wp2_with fail
  refine (H1.out _ h).mono ?_; rintro e w1 ⟨A1, c1, rfl, hO1, hB1⟩
  go_wp2_with fail
  refine (H2.out _ (k.below hB1)).mono ?_; rintro e w2 ⟨A2, c2, rfl, hO2, hB2⟩
  have s1 := (hO1.ss (by rw [can_length]; exact HL.out)).below hB2
  have s2 := hO2.ss (by rw [can_length]; exact HK.out)
  go_wp2_with fail
  refine (same_dec _ _ _ _ _ _ _ _ _ s1 s2).mono ?_; rintro e w3 ⟨rfl, hB3⟩
  go_wp2_with fail
  go_ret
  exact ⟨rfl, nx (nx hB1 hB2) hB3⟩
theorem alike_dec (A B : Option Addr) (n m c d : Nat) (l l' : List St) (w : World) (h : Ss w A n c l) (k : Ss w B m d l') (hn : n ≤ 1000) (hm : m ≤ 1000) (hw : Hid (∀ s ∈ l, StWf s)) (hw' : Hid (∀ s ∈ l', StWf s)) :
    Calls Try.prog 11 #[.slice A n c, .slice B m d] w fun e w' => e = .returned (.bool (decide (canL l = canL l'))) ∧ Below w.heap.size w w' := by
  by_cases e : canL l = canL l'
  · have hlen : n = m := by rw [← h.len, ← k.len, ← can_length l, ← can_length l', e]
    subst hlen
    rw [decide_eq_true e]
    exact alike_yes A B n c d l l' w h k hn hw hw' (Lib.hid e.symm).out
  · rw [decide_eq_false e]
    refine (alike_any A B n m c d l l' w h k hn hm hw hw').mono ?_
    rintro e' w' ⟨b, rfl, hb, hB⟩
    cases b
    · exact ⟨rfl, hB⟩
    · exact absurd (hb rfl) e
end Go.Proofs.Ytejoiamdhjhjhaa
