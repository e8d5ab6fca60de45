/- Nodes in memory; the walks of slices.Equal, SameInts, ratchet.Same$1, SameNode, Zero. -/
import Derived.Test.YtjebmmmjjiomfaaCBase
namespace Go.Proofs.Ytjebmmmjjiomfaa
open Go.RowKit

/-- the six cells of a node -/
structure At6 (w : World) (p : Addr) (s : TN) (A : Option Addr) (n c : Nat) : Prop where
  c0 : w.cell? p = some (.int .i64 s.k)
  c1 : w.cell? ⟨p.block, p.off + 1, none⟩ = some (.int .i64 s.id)
  c2 : w.cell? ⟨p.block, p.off + 2, none⟩ = some (.int .i64 s.enc)
  c3 : w.cell? ⟨p.block, p.off + 3, none⟩ = some (.int .i64 s.sig)
  c4 : w.cell? ⟨p.block, p.off + 4, none⟩ = some (.int .i64 s.hash)
  c5 : w.cell? ⟨p.block, p.off + 5, none⟩ = some (.slice A n c)
  un : Sl w A n c (iv s.un)
/-- a slice of nodes -/
structure Ts (w : World) (A : Option Addr) (n c : Nat) (l : List TN) : Prop where
  len : l.length = n
  cap : n ≤ c
  top : c ≤ maxLen
  lies : l = [] ∨ ∃ ad, A = some ad ∧ ∀ (k : Nat) (s : TN), l[k]? = some s → ∃ B m d, At6 w (ad.add (k * 6)) s B m d
theorem At6.keep {w w' : World} {p : Addr} {s : TN} {A : Option Addr} {n c : Nat} (h : At6 w p s A n c) (hk : ∀ q : Addr, q.block < w.heap.size → w'.cell? q = w.cell? q) : At6 w' p s A n c := by
  have k : ∀ {q : Addr} {v : Value}, w.cell? q = some v → w'.cell? q = some v := fun {q v} e => (hk q (World.block_lt_of_cell? w _ e)).trans e
  refine ⟨k h.c0, k h.c1, k h.c2, k h.c3, k h.c4, k h.c5, ⟨h.un.len, h.un.cap, h.un.top, ?_⟩⟩
  exact h.un.lies.keep hk
theorem At6.below {w w' : World} {p : Addr} {s : TN} {A : Option Addr} {n c : Nat} (h : At6 w p s A n c) (hb : Below w.heap.size w w') : At6 w' p s A n c := h.keep fun _ hp => hb.cell hp
section
variable {w w' : World} {A : Option Addr} {n c : Nat} {l : List TN}
theorem Ts.none (w : World) : Ts w Option.none 0 0 [] := ⟨rfl, Nat.le_refl _, Nat.zero_le _, .inl rfl⟩
theorem Ts.keep (h : Ts w A n c l) (hk : ∀ q : Addr, q.block < w.heap.size → w'.cell? q = w.cell? q) : Ts w' A n c l := by
  refine ⟨h.len, h.cap, h.top, ?_⟩
  rcases h.lies with e | ⟨ad, hA, hc⟩
  · exact .inl e
  · exact .inr ⟨ad, hA, fun k s hs => by obtain ⟨B, m, d, hat⟩ := hc k s hs; exact ⟨B, m, d, hat.keep hk⟩⟩
theorem Ts.below (h : Ts w A n c l) (hb : Below w.heap.size w w') : Ts w' A n c l := h.keep fun _ hp => hb.cell hp
theorem Ts.alloc (h : Ts w A n c l) (o : Obj) : Ts (w.alloc o) A n c l := h.keep fun p hp => World.cell?_alloc_lt w o p hp
theorem Ts.at_ (h : Ts w A n c l) {k : Nat} (hk : k < n) : ∃ ad s B m d, A = some ad ∧ l[k]? = some s ∧ At6 w (ad.add (k * 6)) s B m d := by
  have hl : k < l.length := by have := h.len; omega
  have hs := List.getElem?_eq_getElem hl
  rcases h.lies with e | ⟨ad, hA, hc⟩
  · rw [e] at hl; simp at hl
  · obtain ⟨B, m, d, hat⟩ := hc _ _ hs
    exact ⟨ad, _, B, m, d, hA, hs, hat⟩
end
/-- a node as a value -/
def nv (s : TN) (A : Option Addr) (n c : Nat) : Value := .agg #[.int .i64 s.k, .int .i64 s.id, .int .i64 s.enc, .int .i64 s.sig, .int .i64 s.hash, .slice A n c]
def sameN (s u : TN) : Bool := decide (s.k = u.k ∧ s.id = u.id ∧ s.enc = u.enc ∧ s.sig = u.sig ∧ s.hash = u.hash ∧ s.un = u.un)
theorem sameN_iff (s u : TN) : sameN s u = true ↔ s = u := by
  unfold sameN; rw [decide_eq_true_iff]
  obtain ⟨a, b, c, d, e, f⟩ := s
  obtain ⟨a', b', c', d', e', f'⟩ := u
  simp
set_option maxRecDepth 100000 in
set_option maxHeartbeats 2000000 in
theorem equal_any (A B : Option Addr) (n m c d : Nat) (l l' : List Int) (w : World) (h : Sl w A n c (iv l)) (k : Sl w B m d (iv l')) :
    Calls Try.prog 125 #[.slice A n c, .slice B m d] w fun e w' => e = .returned (.bool (decide (l = l'))) ∧ Below w.heap.size w w' := by
  have htop := h.top; have hcap := h.cap; unfold maxLen at htop
  have HL := Lib.hid (show l.length = n by have := h.len; rwa [iv_length] at this)
  have HK := Lib.hid (show l'.length = m by have := k.len; rwa [iv_length] at this)
  by_cases hnm : n = m
  · subst hnm
    go_enter Try.func125, Try.ntmps125
    have t : ((n : Int) != (n : Int)) = false := by simp
    go_wp2_with fail
    go_loopw [5, 13] (fun _ i wr => ∃ j q : Nat, j ≤ n ∧ i = .int .i64 (j : Int) ∧ Hid (∀ i, i < j → l[i]? = l'[i]?) ∧ wr = w.drewN q) (fun _ i _ => n - (intOf i).toNat)
    case atStart => exact ⟨0, 0, Nat.zero_le _, rfl, fun i hi => absurd hi (Nat.not_lt_zero _), rfl⟩
    case round =>
      obtain ⟨j, q, hj, rfl, hall, rfl⟩ := hrel
      by_cases hlt : j < n
      · obtain ⟨ad, s, rfl, hs, h1⟩ := h.at_ hlt
        obtain ⟨bd, s', rfl, hs', k1⟩ := k.at_ hlt
        rw [iv_get] at hs hs'
        obtain ⟨x, hx⟩ : ∃ x, l[j]? = some x := ⟨_, List.getElem?_eq_getElem (by rw [HL.out]; exact hlt)⟩
        obtain ⟨y, hy⟩ : ∃ y, l'[j]? = some y := ⟨_, List.getElem?_eq_getElem (by rw [HK.out]; exact hlt)⟩
        rw [hx] at hs
        rw [hy] at hs'
        simp at hs hs'
        subst hs hs'
        have i1 : (j : Int) < (n : Int) := by omega
        by_cases hss : x = y
        · subst hss
          have HA : Hid (∀ i, i < j + 1 → l[i]? = l'[i]?) := Lib.hid (fun i hi => by
            by_cases e : i = j
            · subst e; rw [hx, hy]
            · exact hall.out i (by omega))
          clear hx hy
          go_wp2_with fail
          go_quiet (fail)
          go_wp2_with fail
          go_roundw
          case rel => exact ⟨j + 1, _, by omega, by go_num, HA, rfl⟩
          case measure => simp [intOf]; omega
        · have t3 : (x == y) = false := by rw [beq_eq_false_iff_ne]; exact hss
          have HN : Hid (decide (l = l') = false) := Lib.hid (decide_eq_false (fun e => hss (by rw [e] at hx; exact Option.some.inj (hx.symm.trans hy))))
          clear hss hx hy
          go_wp2_with fail
          go_quiet (fail)
          go_wp2_with fail
          go_ret
          rw [HN.out]
          exact ⟨rfl, below_drewN (below_drewN (Below.refl _ _) _) _⟩
      · obtain rfl : j = n := by omega
        have HY : Hid (decide (l = l') = true) := Lib.hid (decide_eq_true (List.ext_getElem? fun i => by
          by_cases e : i < j
          · exact hall.out i e
          · rw [List.getElem?_eq_none (by rw [HL.out]; omega), List.getElem?_eq_none (by rw [HK.out]; omega)]))
        go_wp2_with fail
        go_ret
        rw [HY.out]
        exact ⟨rfl, below_drewN (Below.refl _ _) _⟩
  · have t : ((n : Int) != (m : Int)) = true := by rw [bne_iff_ne]; omega
    have HN : Hid (decide (l = l') = false) := Lib.hid (decide_eq_false (fun e => hnm (by rw [← HL.out, ← HK.out, e])))
    go_enter Try.func125, Try.ntmps125
    go_wp2_with fail
    go_ret
    rw [HN.out]
    exact ⟨rfl, Below.refl _ _⟩
set_option maxRecDepth 100000 in
set_option maxHeartbeats 2000000 in
theorem sameInts_any (A B : Option Addr) (n m c d : Nat) (l l' : List Int) (w : World) (h : Sl w A n c (iv l)) (k : Sl w B m d (iv l')) :
    Calls Try.prog 104 #[.slice A n c, .slice B m d] w fun e w' => e = .returned (.bool (decide (l = l'))) ∧ Below w.heap.size w w' := by
  have htop := h.top; have hcap := h.cap; unfold maxLen at htop
  have HL := Lib.hid (show l.length = n by have := h.len; rwa [iv_length] at this)
  have HK := Lib.hid (show l'.length = m by have := k.len; rwa [iv_length] at this)
  by_cases hnm : n = m
  · subst hnm
    go_enter Try.func104, Try.ntmps104
    have t : ((n : Int) != (n : Int)) = false := by simp
    go_wp2_with fail
    go_loopw [5, 13] (fun _ i wr => ∃ j q : Nat, j ≤ n ∧ i = .int .i64 (j : Int) ∧ Hid (∀ i, i < j → l[i]? = l'[i]?) ∧ wr = w.drewN q) (fun _ i _ => n - (intOf i).toNat)
    case atStart => exact ⟨0, 0, Nat.zero_le _, rfl, fun i hi => absurd hi (Nat.not_lt_zero _), rfl⟩
    case round =>
      obtain ⟨j, q, hj, rfl, hall, rfl⟩ := hrel
      by_cases hlt : j < n
      · obtain ⟨ad, s, rfl, hs, h1⟩ := h.at_ hlt
        obtain ⟨bd, s', rfl, hs', k1⟩ := k.at_ hlt
        rw [iv_get] at hs hs'
        obtain ⟨x, hx⟩ : ∃ x, l[j]? = some x := ⟨_, List.getElem?_eq_getElem (by rw [HL.out]; exact hlt)⟩
        obtain ⟨y, hy⟩ : ∃ y, l'[j]? = some y := ⟨_, List.getElem?_eq_getElem (by rw [HK.out]; exact hlt)⟩
        rw [hx] at hs
        rw [hy] at hs'
        simp at hs hs'
        subst hs hs'
        have i1 : (j : Int) < (n : Int) := by omega
        by_cases hss : x = y
        · subst hss
          have HA : Hid (∀ i, i < j + 1 → l[i]? = l'[i]?) := Lib.hid (fun i hi => by
            by_cases e : i = j
            · subst e; rw [hx, hy]
            · exact hall.out i (by omega))
          clear hx hy
          go_wp2_with fail
          go_quiet (fail)
          go_wp2_with fail
          go_roundw
          case rel => exact ⟨j + 1, _, by omega, by go_num, HA, rfl⟩
          case measure => simp [intOf]; omega
        · have t3 : (x == y) = false := by rw [beq_eq_false_iff_ne]; exact hss
          have HN : Hid (decide (l = l') = false) := Lib.hid (decide_eq_false (fun e => hss (by rw [e] at hx; exact Option.some.inj (hx.symm.trans hy))))
          clear hss hx hy
          go_wp2_with fail
          go_quiet (fail)
          go_wp2_with fail
          go_ret
          rw [HN.out]
          exact ⟨rfl, below_drewN (below_drewN (Below.refl _ _) _) _⟩
      · obtain rfl : j = n := by omega
        have HY : Hid (decide (l = l') = true) := Lib.hid (decide_eq_true (List.ext_getElem? fun i => by
          by_cases e : i < j
          · exact hall.out i e
          · rw [List.getElem?_eq_none (by rw [HL.out]; omega), List.getElem?_eq_none (by rw [HK.out]; omega)]))
        go_wp2_with fail
        go_ret
        rw [HY.out]
        exact ⟨rfl, below_drewN (Below.refl _ _) _⟩
  · have t : ((n : Int) != (m : Int)) = true := by rw [bne_iff_ne]; omega
    have HN : Hid (decide (l = l') = false) := Lib.hid (decide_eq_false (fun e => hnm (by rw [← HL.out, ← HK.out, e])))
    go_enter Try.func104, Try.ntmps104
    go_wp2_with fail
    go_ret
    rw [HN.out]
    exact ⟨rfl, Below.refl _ _⟩
set_option maxRecDepth 100000 in
set_option maxHeartbeats 2000000 in
theorem ratSame1_any (A B : Option Addr) (n m c d : Nat) (s u : TN) (w : World) (h : Sl w A n c (iv s.un)) (k : Sl w B m d (iv u.un)) :
    Calls Try.prog 124 #[nv s A n c, nv u B m d] w fun e w' => e = .returned (.bool (sameN s u)) ∧ Below w.heap.size w w' := by
  unfold sameN nv
  obtain ⟨s0, s1, s2, s3, s4, s5⟩ := s
  obtain ⟨u0, u1, u2, u3, u4, u5⟩ := u
  dsimp only at h k ⊢
  have H := Lib.hid (equal_any A B n m c d s5 u5 _ ((h.alloc (.cells #[.int .i64 s0, .int .i64 s1, .int .i64 s2, .int .i64 s3, .int .i64 s4, .slice A n c] 67)).alloc (.cells #[.int .i64 u0, .int .i64 u1, .int .i64 u2, .int .i64 u3, .int .i64 u4, .slice B m d] 67)) ((k.alloc _).alloc _))
  have hB2 : Below w.heap.size w ((w.alloc (.cells #[.int .i64 s0, .int .i64 s1, .int .i64 s2, .int .i64 s3, .int .i64 s4, .slice A n c] 67)).alloc (.cells #[.int .i64 u0, .int .i64 u1, .int .i64 u2, .int .i64 u3, .int .i64 u4, .slice B m d] 67)) := nxa (nxa (Below.refl _ _) _) _
  have HB2 := Lib.hid hB2
  clear h k hB2
  by_cases e0 : s0 = u0
  · by_cases e1 : s1 = u1
    · by_cases e2 : s2 = u2
      · by_cases e3 : s3 = u3
        · by_cases e4 : s4 = u4
          · subst e0 e1 e2 e3 e4
            have HD : Hid (decide (s0 = s0 ∧ s1 = s1 ∧ s2 = s2 ∧ s3 = s3 ∧ s4 = s4 ∧ s5 = u5) = decide (s5 = u5)) := Lib.hid (by simp)
            rw [HD.out]
            go_enter Try.func124, Try.ntmps124
            go_wp2_with (go_at_call 125; refine H.out.mono ?_; rintro e w1 ⟨rfl, hB⟩)
            go_ret
            exact ⟨rfl, nx HB2.out hB⟩
          · have t : (s4 == u4) = false := by rw [beq_eq_false_iff_ne]; exact e4
            have HD : Hid (decide (s0 = u0 ∧ s1 = u1 ∧ s2 = u2 ∧ s3 = u3 ∧ s4 = u4 ∧ s5 = u5) = false) := Lib.hid (decide_eq_false (by simp [e4]))
            rw [HD.out]
            subst e0 e1 e2 e3
            clear e4
            go_enter Try.func124, Try.ntmps124
            go_wp2_with fail
            go_ret
            exact ⟨rfl, HB2.out⟩
        · have t : (s3 == u3) = false := by rw [beq_eq_false_iff_ne]; exact e3
          have HD : Hid (decide (s0 = u0 ∧ s1 = u1 ∧ s2 = u2 ∧ s3 = u3 ∧ s4 = u4 ∧ s5 = u5) = false) := Lib.hid (decide_eq_false (by simp [e3]))
          rw [HD.out]
          subst e0 e1 e2
          clear e3
          go_enter Try.func124, Try.ntmps124
          go_wp2_with fail
          go_ret
          exact ⟨rfl, HB2.out⟩
      · have t : (s2 == u2) = false := by rw [beq_eq_false_iff_ne]; exact e2
        have HD : Hid (decide (s0 = u0 ∧ s1 = u1 ∧ s2 = u2 ∧ s3 = u3 ∧ s4 = u4 ∧ s5 = u5) = false) := Lib.hid (decide_eq_false (by simp [e2]))
        rw [HD.out]
        subst e0 e1
        clear e2
        go_enter Try.func124, Try.ntmps124
        go_wp2_with fail
        go_ret
        exact ⟨rfl, HB2.out⟩
    · have t : (s1 == u1) = false := by rw [beq_eq_false_iff_ne]; exact e1
      have HD : Hid (decide (s0 = u0 ∧ s1 = u1 ∧ s2 = u2 ∧ s3 = u3 ∧ s4 = u4 ∧ s5 = u5) = false) := Lib.hid (decide_eq_false (by simp [e1]))
      rw [HD.out]
      subst e0
      clear e1
      go_enter Try.func124, Try.ntmps124
      go_wp2_with fail
      go_ret
      exact ⟨rfl, HB2.out⟩
  · have t : (s0 == u0) = false := by rw [beq_eq_false_iff_ne]; exact e0
    have HD : Hid (decide (s0 = u0 ∧ s1 = u1 ∧ s2 = u2 ∧ s3 = u3 ∧ s4 = u4 ∧ s5 = u5) = false) := Lib.hid (decide_eq_false (by simp [e0]))
    rw [HD.out]
    clear e0
    go_enter Try.func124, Try.ntmps124
    go_wp2_with fail
    go_ret
    exact ⟨rfl, HB2.out⟩
set_option maxRecDepth 100000 in
set_option maxHeartbeats 2000000 in
theorem sameNode_any (A B : Option Addr) (n m c d : Nat) (s u : TN) (w : World) (h : Sl w A n c (iv s.un)) (k : Sl w B m d (iv u.un)) :
    Calls Try.prog 70 #[nv s A n c, nv u B m d] w fun e w' => e = .returned (.bool (sameN s u)) ∧ Below w.heap.size w w' := by
  unfold sameN nv
  obtain ⟨s0, s1, s2, s3, s4, s5⟩ := s
  obtain ⟨u0, u1, u2, u3, u4, u5⟩ := u
  dsimp only at h k ⊢
  have H := Lib.hid (sameInts_any A B n m c d s5 u5 _ ((h.alloc (.cells #[.int .i64 s0, .int .i64 s1, .int .i64 s2, .int .i64 s3, .int .i64 s4, .slice A n c] 67)).alloc (.cells #[.int .i64 u0, .int .i64 u1, .int .i64 u2, .int .i64 u3, .int .i64 u4, .slice B m d] 67)) ((k.alloc _).alloc _))
  have hB2 : Below w.heap.size w ((w.alloc (.cells #[.int .i64 s0, .int .i64 s1, .int .i64 s2, .int .i64 s3, .int .i64 s4, .slice A n c] 67)).alloc (.cells #[.int .i64 u0, .int .i64 u1, .int .i64 u2, .int .i64 u3, .int .i64 u4, .slice B m d] 67)) := nxa (nxa (Below.refl _ _) _) _
  have HB2 := Lib.hid hB2
  clear h k hB2
  by_cases e0 : s0 = u0
  · by_cases e1 : s1 = u1
    · by_cases e2 : s2 = u2
      · by_cases e3 : s3 = u3
        · by_cases e4 : s4 = u4
          · subst e0 e1 e2 e3 e4
            have HD : Hid (decide (s0 = s0 ∧ s1 = s1 ∧ s2 = s2 ∧ s3 = s3 ∧ s4 = s4 ∧ s5 = u5) = decide (s5 = u5)) := Lib.hid (by simp)
            rw [HD.out]
            go_enter Try.func70, Try.ntmps70
            go_wp2_with (go_at_call 104; refine H.out.mono ?_; rintro e w1 ⟨rfl, hB⟩)
            go_ret
            exact ⟨rfl, nx HB2.out hB⟩
          · have t : (s4 == u4) = false := by rw [beq_eq_false_iff_ne]; exact e4
            have HD : Hid (decide (s0 = u0 ∧ s1 = u1 ∧ s2 = u2 ∧ s3 = u3 ∧ s4 = u4 ∧ s5 = u5) = false) := Lib.hid (decide_eq_false (by simp [e4]))
            rw [HD.out]
            subst e0 e1 e2 e3
            clear e4
            go_enter Try.func70, Try.ntmps70
            go_wp2_with fail
            go_ret
            exact ⟨rfl, HB2.out⟩
        · have t : (s3 == u3) = false := by rw [beq_eq_false_iff_ne]; exact e3
          have HD : Hid (decide (s0 = u0 ∧ s1 = u1 ∧ s2 = u2 ∧ s3 = u3 ∧ s4 = u4 ∧ s5 = u5) = false) := Lib.hid (decide_eq_false (by simp [e3]))
          rw [HD.out]
          subst e0 e1 e2
          clear e3
          go_enter Try.func70, Try.ntmps70
          go_wp2_with fail
          go_ret
          exact ⟨rfl, HB2.out⟩
      · have t : (s2 == u2) = false := by rw [beq_eq_false_iff_ne]; exact e2
        have HD : Hid (decide (s0 = u0 ∧ s1 = u1 ∧ s2 = u2 ∧ s3 = u3 ∧ s4 = u4 ∧ s5 = u5) = false) := Lib.hid (decide_eq_false (by simp [e2]))
        rw [HD.out]
        subst e0 e1
        clear e2
        go_enter Try.func70, Try.ntmps70
        go_wp2_with fail
        go_ret
        exact ⟨rfl, HB2.out⟩
    · have t : (s1 == u1) = false := by rw [beq_eq_false_iff_ne]; exact e1
      have HD : Hid (decide (s0 = u0 ∧ s1 = u1 ∧ s2 = u2 ∧ s3 = u3 ∧ s4 = u4 ∧ s5 = u5) = false) := Lib.hid (decide_eq_false (by simp [e1]))
      rw [HD.out]
      subst e0
      clear e1
      go_enter Try.func70, Try.ntmps70
      go_wp2_with fail
      go_ret
      exact ⟨rfl, HB2.out⟩
  · have t : (s0 == u0) = false := by rw [beq_eq_false_iff_ne]; exact e0
    have HD : Hid (decide (s0 = u0 ∧ s1 = u1 ∧ s2 = u2 ∧ s3 = u3 ∧ s4 = u4 ∧ s5 = u5) = false) := Lib.hid (decide_eq_false (by simp [e0]))
    rw [HD.out]
    clear e0
    go_enter Try.func70, Try.ntmps70
    go_wp2_with fail
    go_ret
    exact ⟨rfl, HB2.out⟩
end Go.Proofs.Ytjebmmmjjiomfaa
