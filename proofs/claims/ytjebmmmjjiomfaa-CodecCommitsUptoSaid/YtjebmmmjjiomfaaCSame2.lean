/- The walks of slices.EqualFunc, ratchet.Same, codec.same, the reference's Same and Zero. -/
import Derived.Test.YtjebmmmjjiomfaaCSame
import Derived.StillTailTactics
namespace Go.Proofs.Ytjebmmmjjiomfaa
open Go.RowKit

instance : DecidableEq TN := fun s u => decidable_of_iff _ (sameN_iff s u)
theorem sameN_yes {s u : TN} (h : s = u) : sameN s u = true := (sameN_iff s u).2 h
theorem sameN_no {s u : TN} (h : s ≠ u) : sameN s u = false := by
  cases e : sameN s u
  · rfl
  · exact absurd ((sameN_iff s u).1 e) h
theorem ends_eq {l l' : List TN} {n : Nat} (h1 : l.length = n) (h2 : l'.length = n) (h : ∀ i, i < n → l[i]? = l'[i]?) : l = l' := List.ext_getElem? fun i => by
  by_cases e : i < n
  · exact h i e
  · rw [List.getElem?_eq_none (by omega), List.getElem?_eq_none (by omega)]
theorem cf124 (args : Array Value) (w : World) : (callFunc 124 args).run Try.prog w = .ok (.enter 124 args) w := by kernel_rfl
set_option maxRecDepth 100000 in
set_option maxHeartbeats 4000000 in
theorem eqFunc_any (A B : Option Addr) (n m c d : Nat) (l l' : List TN) (w : World) (h : Ts w A n c l) (k : Ts w B m d l') :
    Calls Try.prog 123 #[.slice A n c, .slice B m d, .func (.func 124) #[] #[]] w fun e w' => e = .returned (.bool (decide (l = l'))) ∧ Below w.heap.size w w' := by
  have htop := h.top; have hcap := h.cap; unfold maxLen at htop
  have HL := Lib.hid h.len
  have HK := Lib.hid k.len
  have hcf := cf124
  by_cases hnm : n = m
  · subst hnm
    go_enter Try.func123, Try.ntmps123
    have t : ((n : Int) != (n : Int)) = false := by simp
    go_wp2_with fail
    go_loopw [17] (fun i wr => ∃ j : Nat, j ≤ n ∧ i = .int .i64 (j : Int) ∧ Hid (∀ i, i < j → l[i]? = l'[i]?) ∧ Below w.heap.size w wr) (fun i _ => n - (intOf i).toNat)
    case atStart => exact ⟨0, Nat.zero_le _, rfl, fun i hi => absurd hi (Nat.not_lt_zero _), Below.refl _ _⟩
    case round =>
      obtain ⟨j, hj, rfl, hall, hB⟩ := hrel
      by_cases hlt : j < n
      · obtain ⟨ad, s, A1, n1, c1, rfl, hs, hat⟩ := (h.below hB).at_ hlt
        obtain ⟨bd, u, A2, n2, c2, rfl, hu, hau⟩ := (k.below hB).at_ hlt
        have i1 : (j : Int) < (n : Int) := by omega
        have hau := hau.below ((Below.refl _ wr).alloc (Nat.le_refl _) (.cells #[.int .i64 s.k, .int .i64 s.id, .int .i64 s.enc, .int .i64 s.sig, .int .i64 s.hash, .slice A1 n1 c1] 67))
        have HC := Lib.hid (ratSame1_any A1 A2 n1 n2 c1 c2 s u _ ((hat.un.alloc (.cells #[.int .i64 s.k, .int .i64 s.id, .int .i64 s.enc, .int .i64 s.sig, .int .i64 s.hash, .slice A1 n1 c1] 67)).alloc (.cells #[.int .i64 u.k, .int .i64 u.id, .int .i64 u.enc, .int .i64 u.sig, .int .i64 u.hash, .slice A2 n2 c2] 67)) (hau.un.alloc _))
        have hBB := (hB.alloc hB.size (.cells #[.int .i64 s.k, .int .i64 s.id, .int .i64 s.enc, .int .i64 s.sig, .int .i64 s.hash, .slice A1 n1 c1] 67)).alloc (by have := hB.size; simp; omega) (.cells #[.int .i64 u.k, .int .i64 u.id, .int .i64 u.enc, .int .i64 u.sig, .int .i64 u.hash, .slice A2 n2 c2] 67)
        have HBB := Lib.hid hBB
        have HSZ := Lib.hid hB.size
        obtain ⟨c0, c1, c2, c3, c4, c5, _⟩ := hat
        obtain ⟨d0, d1, d2, d3, d4, d5, _⟩ := hau
        unfold nv at HC
        clear hBB hB
        by_cases hsu : s = u
        · rw [sameN_yes hsu] at HC
          have HA : Hid (∀ i, i < j + 1 → l[i]? = l'[i]?) := Lib.hid (fun i hi => by
            by_cases e : i = j
            · subst e; rw [hs, hu, hsu]
            · exact hall.out i (by omega))
          clear hs hu hsu
          go_wp2_with fail
          refine HC.out.mono ?_; rintro e w2 ⟨rfl, hB2⟩
          go_wp2_with fail
          go_roundw
          case rel => exact ⟨j + 1, by omega, by go_num, HA, HBB.out.trans (hB2.mono (by have := HSZ.out; simp; omega))⟩
          case measure => simp [intOf]; omega
        · rw [sameN_no hsu] at HC
          have HN : Hid (decide (l = l') = false) := Lib.hid (decide_eq_false (fun e => hsu (by rw [e] at hs; exact Option.some.inj (hs.symm.trans hu))))
          clear hs hu hsu
          go_wp2_with fail
          refine HC.out.mono ?_; rintro e w2 ⟨rfl, hB2⟩
          go_wp2_with fail
          go_ret
          rw [HN.out]
          exact ⟨rfl, HBB.out.trans (hB2.mono (by have := HSZ.out; simp; omega))⟩
      · obtain rfl : j = n := by omega
        have HY : Hid (decide (l = l') = true) := Lib.hid (decide_eq_true (ends_eq HL.out HK.out hall.out))
        go_wp2_with fail
        go_ret
        rw [HY.out]
        exact ⟨rfl, hB⟩
  · have t : ((n : Int) != (m : Int)) = true := by rw [bne_iff_ne]; omega
    have HN : Hid (decide (l = l') = false) := Lib.hid (decide_eq_false (fun e => hnm (by rw [← HL.out, ← HK.out, e])))
    go_enter Try.func123, Try.ntmps123
    go_wp2_with fail
    go_ret
    rw [HN.out]
    exact ⟨rfl, Below.refl _ _⟩
theorem ratSame_any (A B : Option Addr) (n m c d : Nat) (l l' : List TN) (w : World) (h : Ts w A n c l) (k : Ts w B m d l') :
    Calls Try.prog 119 #[.slice A n c, .slice B m d] w fun e w' => e = .returned (.bool (decide (l = l'))) ∧ Below w.heap.size w w' := by
  have H := Lib.hid (eqFunc_any A B n m c d l l' w h k)
  go_enter Try.func119, Try.ntmps119
  go_wp2_with (go_at_call 123; refine H.out.mono ?_; rintro e w1 ⟨rfl, hB⟩)
  go_ret
  exact ⟨rfl, hB⟩
theorem Ts.one (w : World) (s : TN) (A : Option Addr) (n c : Nat) (h : Sl w A n c (iv s.un)) : Ts (w.alloc (.cells #[.int .i64 s.k, .int .i64 s.id, .int .i64 s.enc, .int .i64 s.sig, .int .i64 s.hash, .slice A n c] 67)) (some ⟨w.heap.size, 0, Option.none⟩) 1 1 [s] := by
  refine ⟨rfl, Nat.le_refl _, by unfold maxLen; omega, .inr ⟨_, rfl, fun k u hu => ?_⟩⟩
  match k, hu with
  | 0, hu =>
    simp at hu; subst hu
    have e := heap_alloc_new w (.cells #[.int .i64 s.k, .int .i64 s.id, .int .i64 s.enc, .int .i64 s.sig, .int .i64 s.hash, .slice A n c] 67)
    refine ⟨A, n, c, ?_, ?_, ?_, ?_, ?_, ?_, h.alloc _⟩
    · rw [add_mk]; exact cell_of e 0
    · rw [add_mk]; exact cell_of e 1
    · rw [add_mk]; exact cell_of e 2
    · rw [add_mk]; exact cell_of e 3
    · rw [add_mk]; exact cell_of e 4
    · rw [add_mk]; exact cell_of e 5
set_option maxRecDepth 100000 in
/-- 'same' of codec -/
theorem same_any (A B : Option Addr) (n m c d : Nat) (s u : TN) (w : World) (h : Sl w A n c (iv s.un)) (k : Sl w B m d (iv u.un)) :
    Calls Try.prog 110 #[nv s A n c, nv u B m d] w fun e w' => e = .returned (.bool (sameN s u)) ∧ Below w.heap.size w w' := by
  unfold nv
  have hs2 := (h.alloc (.cells #[.int .i64 s.k, .int .i64 s.id, .int .i64 s.enc, .int .i64 s.sig, .int .i64 s.hash, .slice A n c] 67)).alloc (.cells #[.int .i64 u.k, .int .i64 u.id, .int .i64 u.enc, .int .i64 u.sig, .int .i64 u.hash, .slice B m d] 67)
  have hu2 := (k.alloc (.cells #[.int .i64 s.k, .int .i64 s.id, .int .i64 s.enc, .int .i64 s.sig, .int .i64 s.hash, .slice A n c] 67)).alloc (.cells #[.int .i64 u.k, .int .i64 u.id, .int .i64 u.enc, .int .i64 u.sig, .int .i64 u.hash, .slice B m d] 67)
  have HT := Lib.hid (ratSame_any _ _ _ _ _ _ [s] [u] _ ((Ts.one _ s A n c hs2).alloc _) (Ts.one _ u B m d (hu2.alloc _)))
  have HB := Lib.hid (nxa (nxa (nxa (nxa (Below.refl _ w) (.cells #[.int .i64 s.k, .int .i64 s.id, .int .i64 s.enc, .int .i64 s.sig, .int .i64 s.hash, .slice A n c] 67)) (.cells #[.int .i64 u.k, .int .i64 u.id, .int .i64 u.enc, .int .i64 u.sig, .int .i64 u.hash, .slice B m d] 67)) (.cells #[.int .i64 s.k, .int .i64 s.id, .int .i64 s.enc, .int .i64 s.sig, .int .i64 s.hash, .slice A n c] 67)) (.cells #[.int .i64 u.k, .int .i64 u.id, .int .i64 u.enc, .int .i64 u.sig, .int .i64 u.hash, .slice B m d] 67))
  have hz1 : ((w.alloc (.cells #[.int .i64 s.k, .int .i64 s.id, .int .i64 s.enc, .int .i64 s.sig, .int .i64 s.hash, .slice A n c] 67)).alloc (.cells #[.int .i64 u.k, .int .i64 u.id, .int .i64 u.enc, .int .i64 u.sig, .int .i64 u.hash, .slice B m d] 67)).heap.size = w.heap.size + 1 + 1 := by simp
  have hz2 : (((w.alloc (.cells #[.int .i64 s.k, .int .i64 s.id, .int .i64 s.enc, .int .i64 s.sig, .int .i64 s.hash, .slice A n c] 67)).alloc (.cells #[.int .i64 u.k, .int .i64 u.id, .int .i64 u.enc, .int .i64 u.sig, .int .i64 u.hash, .slice B m d] 67)).alloc (.cells #[.int .i64 s.k, .int .i64 s.id, .int .i64 s.enc, .int .i64 s.sig, .int .i64 s.hash, .slice A n c] 67)).heap.size = w.heap.size + 1 + 1 + 1 := by simp
  rw [hz1, hz2] at HT
  have HD : Hid (decide ([s] = [u]) = sameN s u) := Lib.hid (by
    by_cases e : s = u
    · rw [sameN_yes e, decide_eq_true (by rw [e])]
    · rw [sameN_no e, decide_eq_false (by simpa using e)])
  rw [HD.out] at HT
  clear hs2 hu2 h k
  go_enter Try.func110, Try.ntmps110
  go_wp2_with fail
  refine HT.out.mono ?_; rintro e w1 ⟨rfl, hB⟩
  go_wp2_with fail
  go_ret
  exact ⟨rfl, nx HB.out hB⟩
set_option maxRecDepth 100000 in
set_option maxHeartbeats 4000000 in
/-- the reference's Same -/
theorem rsame_any (A B : Option Addr) (n m c d : Nat) (l l' : List TN) (w : World) (h : Ts w A n c l) (k : Ts w B m d l') :
    Calls Try.prog 38 #[.slice A n c, .slice B m d] w fun e w' => e = .returned (.bool (decide (l = l'))) ∧ Below w.heap.size w w' := by
  have htop := h.top; have hcap := h.cap; unfold maxLen at htop
  have HL := Lib.hid h.len
  have HK := Lib.hid k.len
  by_cases hnm : n = m
  · subst hnm
    go_enter Try.func38, Try.ntmps38
    have t : ((n : Int) != (n : Int)) = false := by simp
    go_wp2_with fail
    go_loopw [5, 13] (fun _ i wr => ∃ j : Nat, j ≤ n ∧ i = .int .i64 (j : Int) ∧ Hid (∀ i, i < j → l[i]? = l'[i]?) ∧ Below w.heap.size w wr) (fun _ i _ => n - (intOf i).toNat)
    case atStart => exact ⟨0, Nat.zero_le _, rfl, fun i hi => absurd hi (Nat.not_lt_zero _), Below.refl _ _⟩
    case round =>
      obtain ⟨j, hj, rfl, hall, hB⟩ := hrel
      by_cases hlt : j < n
      · obtain ⟨ad, s, A1, n1, c1, rfl, hs, hat⟩ := (h.below hB).at_ hlt
        obtain ⟨bd, u, A2, n2, c2, rfl, hu, hau⟩ := (k.below hB).at_ hlt
        have i1 : (j : Int) < (n : Int) := by omega
        have HC := Lib.hid (sameNode_any A1 A2 n1 n2 c1 c2 s u wr.drew hat.un.drew hau.un.drew)
        have HSZ := Lib.hid hB.size
        obtain ⟨c0, c1, c2, c3, c4, c5, _⟩ := hat
        obtain ⟨d0, d1, d2, d3, d4, d5, _⟩ := hau
        unfold nv at HC
        by_cases hsu : s = u
        · rw [sameN_yes hsu] at HC
          have HA : Hid (∀ i, i < j + 1 → l[i]? = l'[i]?) := Lib.hid (fun i hi => by
            by_cases e : i = j
            · subst e; rw [hs, hu, hsu]
            · exact hall.out i (by omega))
          clear hs hu hsu
          go_wp2_with fail
          go_still_tail 8, (by kernel_rfl)
          change wpList _ _ _ _ _ wr.drew
          go_wp2_with (go_at_call 70; refine HC.out.mono ?_; rintro e w2 ⟨rfl, hB2⟩)
          go_roundw
          case rel => exact ⟨j + 1, by omega, by go_num, HA, (below_drewN hB 1).trans (hB2.mono HSZ.out)⟩
          case measure => simp [intOf]; omega
        · rw [sameN_no hsu] at HC
          have HN : Hid (decide (l = l') = false) := Lib.hid (decide_eq_false (fun e => hsu (by rw [e] at hs; exact Option.some.inj (hs.symm.trans hu))))
          clear hs hu hsu
          go_wp2_with fail
          go_still_tail 8, (by kernel_rfl)
          change wpList _ _ _ _ _ wr.drew
          go_wp2_with (go_at_call 70; refine HC.out.mono ?_; rintro e w2 ⟨rfl, hB2⟩)
          go_ret
          rw [HN.out]
          exact ⟨rfl, (below_drewN hB 1).trans (hB2.mono HSZ.out)⟩
      · obtain rfl : j = n := by omega
        have HY : Hid (decide (l = l') = true) := Lib.hid (decide_eq_true (ends_eq HL.out HK.out hall.out))
        go_wp2_with fail
        go_ret
        rw [HY.out]
        exact ⟨rfl, hB⟩
  · have t : ((n : Int) != (m : Int)) = true := by rw [bne_iff_ne]; omega
    have HN : Hid (decide (l = l') = false) := Lib.hid (decide_eq_false (fun e => hnm (by rw [← HL.out, ← HK.out, e])))
    go_enter Try.func38, Try.ntmps38
    go_wp2_with fail
    go_ret
    rw [HN.out]
    exact ⟨rfl, Below.refl _ _⟩
set_option maxRecDepth 100000 in
set_option maxHeartbeats 2000000 in
/-- the reference's Zero -/
theorem zero_any (A : Option Addr) (n c : Nat) (s : TN) (w : World) (h : Sl w A n c (iv s.un)) :
    Calls Try.prog 111 #[nv s A n c] w fun e w' => e = .returned (.bool (decide (zeroN s))) ∧ Below w.heap.size w w' := by
  unfold zeroN nv
  obtain ⟨s0, s1, s2, s3, s4, s5⟩ := s
  dsimp only at h ⊢
  have HB2 := Lib.hid (nxa (Below.refl _ w) (.cells #[.int .i64 s0, .int .i64 s1, .int .i64 s2, .int .i64 s3, .int .i64 s4, .slice A n c] 67))
  have hl : s5.length = n := by have := h.len; rwa [iv_length] at this
  clear h
  by_cases e0 : s0 = 0
  · by_cases e1 : s1 = 0
    · by_cases e2 : s2 = 0
      · by_cases e3 : s3 = 0
        · by_cases e4 : s4 = 0
          · subst e0 e1 e2 e3 e4
            by_cases e5 : n = 0
            · have HD : Hid (decide ((0:Int) = 0 ∧ (0:Int) = 0 ∧ (0:Int) = 0 ∧ (0:Int) = 0 ∧ (0:Int) = 0 ∧ s5 = []) = true) := Lib.hid (decide_eq_true ⟨rfl, rfl, rfl, rfl, rfl, List.eq_nil_of_length_eq_zero (by omega)⟩)
              rw [HD.out]
              subst e5
              clear hl
              go_enter Try.func111, Try.ntmps111
              go_wp2_with fail
              go_ret
              exact ⟨rfl, HB2.out⟩
            · have HD : Hid (decide ((0:Int) = 0 ∧ (0:Int) = 0 ∧ (0:Int) = 0 ∧ (0:Int) = 0 ∧ (0:Int) = 0 ∧ s5 = []) = false) := Lib.hid (decide_eq_false (by rintro ⟨-, -, -, -, -, e⟩; rw [e] at hl; simp at hl; omega))
              rw [HD.out]
              have t : ((n : Int) == 0) = false := by rw [beq_eq_false_iff_ne]; omega
              have t' : (n == 0) = false := by rw [beq_eq_false_iff_ne]; omega
              clear hl e5
              go_enter Try.func111, Try.ntmps111
              go_wp2_with fail
              go_ret
              exact ⟨rfl, HB2.out⟩
          · have t : (s4 == 0) = false := by rw [beq_eq_false_iff_ne]; exact e4
            have HD : Hid (decide (s0 = 0 ∧ s1 = 0 ∧ s2 = 0 ∧ s3 = 0 ∧ s4 = 0 ∧ s5 = []) = false) := Lib.hid (decide_eq_false (by simp [e4]))
            rw [HD.out]
            subst e0 e1 e2 e3
            clear e4 hl
            go_enter Try.func111, Try.ntmps111
            go_wp2_with fail
            go_ret
            exact ⟨rfl, HB2.out⟩
        · have t : (s3 == 0) = false := by rw [beq_eq_false_iff_ne]; exact e3
          have HD : Hid (decide (s0 = 0 ∧ s1 = 0 ∧ s2 = 0 ∧ s3 = 0 ∧ s4 = 0 ∧ s5 = []) = false) := Lib.hid (decide_eq_false (by simp [e3]))
          rw [HD.out]
          subst e0 e1 e2
          clear e3 hl
          go_enter Try.func111, Try.ntmps111
          go_wp2_with fail
          go_ret
          exact ⟨rfl, HB2.out⟩
      · have t : (s2 == 0) = false := by rw [beq_eq_false_iff_ne]; exact e2
        have HD : Hid (decide (s0 = 0 ∧ s1 = 0 ∧ s2 = 0 ∧ s3 = 0 ∧ s4 = 0 ∧ s5 = []) = false) := Lib.hid (decide_eq_false (by simp [e2]))
        rw [HD.out]
        subst e0 e1
        clear e2 hl
        go_enter Try.func111, Try.ntmps111
        go_wp2_with fail
        go_ret
        exact ⟨rfl, HB2.out⟩
    · have t : (s1 == 0) = false := by rw [beq_eq_false_iff_ne]; exact e1
      have HD : Hid (decide (s0 = 0 ∧ s1 = 0 ∧ s2 = 0 ∧ s3 = 0 ∧ s4 = 0 ∧ s5 = []) = false) := Lib.hid (decide_eq_false (by simp [e1]))
      rw [HD.out]
      subst e0
      clear e1 hl
      go_enter Try.func111, Try.ntmps111
      go_wp2_with fail
      go_ret
      exact ⟨rfl, HB2.out⟩
  · have t : (s0 == 0) = false := by rw [beq_eq_false_iff_ne]; exact e0
    have HD : Hid (decide (s0 = 0 ∧ s1 = 0 ∧ s2 = 0 ∧ s3 = 0 ∧ s4 = 0 ∧ s5 = []) = false) := Lib.hid (decide_eq_false (by simp [e0]))
    rw [HD.out]
    clear e0 hl
    go_enter Try.func111, Try.ntmps111
    go_wp2_with fail
    go_ret
    exact ⟨rfl, HB2.out⟩
end Go.Proofs.Ytjebmmmjjiomfaa
