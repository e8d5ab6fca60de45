/- Plain: of two leaves the one's copath has just one node above the other: the sibling under what they have in common. -/
import Derived.Test.YtieeinppoiihpaaDoorTree
namespace Go.Proofs.YtieeinppoiihpaaDoor

theorem node_form {x : Nat} (h : x < 511) : x + 1 = 2 * loN x + 2 ^ lev x ∧ hiN x = loN x + 2 ^ lev x ∧ loN x % 2 ^ lev x = 0 := by
  have := nodes_all (p := fun x => x + 1 == 2 * loN x + 2 ^ lev x && hiN x == loN x + 2 ^ lev x && loN x % 2 ^ lev x == 0) (by kernel_rfl) h
  simpa [Bool.and_eq_true, and_assoc] using this
theorem over_iff (j y : Nat) : over j y = true ↔ loN y ≤ j ∧ j < hiN y := by unfold over; simp
/-- one node of a level over a leaf -/
theorem over_one {x y j : Nat} (hx : x < 511) (hy : y < 511) (hl : lev x = lev y) (a : over j x = true) (b : over j y = true) : x = y := by
  obtain ⟨a1, a2, a3⟩ := node_form hx
  obtain ⟨b1, b2, b3⟩ := node_form hy
  rw [over_iff] at a b
  rw [← hl] at b1 b2 b3
  generalize 2 ^ lev x = p at *
  have hp : 0 < p := by omega
  have e1 : j / p = loN x / p := by
    have h1 := Nat.div_add_mod (loN x) p
    rw [a3, Nat.add_zero] at h1
    refine (Nat.div_eq_iff hp).2 ⟨?_, ?_⟩ <;> (rw [Nat.mul_comm]; omega)
  have e2 : j / p = loN y / p := by
    have h1 := Nat.div_add_mod (loN y) p
    rw [b3, Nat.add_zero] at h1
    refine (Nat.div_eq_iff hp).2 ⟨?_, ?_⟩ <;> (rw [Nat.mul_comm]; omega)
  have h1 := Nat.div_add_mod (loN x) p
  have h2 := Nat.div_add_mod (loN y) p
  rw [a3, ← e1, e2] at h1
  rw [b3] at h2
  omega
theorem over_upN {x n j : Nat} (h : Ins x n) (hne : x + 1 ≠ n) (a : over j x = true) : over j (upN x) = true ∧ over j (sibN x) = false := by
  have := over_up h hne j
  rw [a] at this
  cases u : over j (upN x) <;> cases s : over j (sibN x) <;> simp_all
theorem over_upN' {x n j : Nat} (h : Ins x n) (hne : x + 1 ≠ n) (a : over j x = false) : over j (upN x) = over j (sibN x) := by
  have := over_up h hne j
  rw [a] at this
  cases u : over j (upN x) <;> cases s : over j (sibN x) <;> simp_all
/-- the loop comes to the parent, where the other is under the sibling -/
theorem com_meet {x n j : Nat} (h : Ins x n) (hne : x + 1 ≠ n) (a : over j x = false) (b : over j (sibN x) = true) : ∀ k z, Ins z n → over j z = true → lev z + k = lev x → comL x z = upN x := by
  intro k
  induction k with
  | zero =>
    intro z hz oz hk
    obtain ⟨s1, s2, s3, s4, s5⟩ := h.sib hne
    obtain rfl : z = sibN x := over_one hz.lt s1.lt (by omega) oz b
    exact com_sib h hne
  | succ k ih =>
    intro z hz oz hk
    have e : x ≠ z := fun e => by subst e; rw [a] at oz; cases oz
    obtain ⟨c1, c2⟩ := comL_y h hz e (by omega)
    obtain ⟨u1, u2, _⟩ := hz.up c1
    rw [c2]
    exact ih _ u1 (over_upN hz c1 oz).1 (by omega)
theorem cop_meet {x n j : Nat} (h : Ins x n) (hj : j < n) (a : over j x = false) : ∃ y, (copL x n).filter (over j) = [y] ∧ Ins y n ∧ y + 1 ≠ n ∧ ∀ z, Ins z n → over j z = true → lev z ≤ lev x → comL x z = upN y := by
  refine Ins.rec_ (P := fun x => over j x = false → ∃ y, (copL x n).filter (over j) = [y] ∧ Ins y n ∧ y + 1 ≠ n ∧ ∀ z, Ins z n → over j z = true → lev z ≤ lev x → comL x z = upN y) h.1 ?_ (fun x h hne ih a => ?_) x h a
  · intro a
    have r := (leaves_fact (Ins.root h.1)).2.2.1 (by have := size_le h.1; omega)
    exfalso
    have : over j (n - 1) = true := by rw [over_iff]; omega
    rw [a] at this; cases this
  · obtain ⟨s1, s2, s3, s4, s5⟩ := h.sib hne
    obtain ⟨u1, u2, u3, _⟩ := h.up hne
    have ou := over_upN' h hne a
    rw [copL_up h hne]
    cases b : over j (sibN x) with
    | true =>
      have m := many_once u1 j hj
      rw [b] at ou
      simp only [many, List.countP_cons, ou, if_true] at m
      have m0 : (copL (upN x) n).countP (over j) = 0 := by omega
      rw [List.countP_eq_length_filter] at m0
      have m1 := List.eq_nil_of_length_eq_zero m0
      refine ⟨sibN x, by simp [b, m1], s1, s5, fun z hz oz hl => ?_⟩
      rw [s2]
      exact com_meet h hne a b (lev x - lev z) z hz oz (by omega)
    | false =>
      rw [b] at ou
      obtain ⟨y, y1, y2, y3, y4⟩ := ih ou
      refine ⟨y, by simp [b, y1], y2, y3, ?_⟩
      have key : ∀ k z, Ins z n → over j z = true → lev z + k = lev x → comL x z = upN y := by
        intro k
        induction k with
        | zero =>
          intro z hz oz hk
          have e : x ≠ z := fun e => by subst e; rw [a] at oz; cases oz
          rw [(comL_x h hz e (by omega)).2]
          exact y4 z hz oz (by omega)
        | succ k ihk =>
          intro z hz oz hk
          have e : x ≠ z := fun e => by subst e; rw [a] at oz; cases oz
          obtain ⟨c1, c2⟩ := comL_y h hz e (by omega)
          obtain ⟨v1, v2, _⟩ := hz.up c1
          rw [c2]
          exact ihk _ v1 (over_upN hz c1 oz).1 (by omega)
      intro z hz oz hl
      exact key (lev x - lev z) z hz oz (by omega)
theorem over_leaf (i j : Nat) (hi : i < 256) : over j (2 * i) = decide (i = j) := by
  have := nodes_all (p := fun x => x % 2 == 1 || (loN x == x / 2 && hiN x == x / 2 + 1)) (by kernel_rfl) (show 2 * i < 511 by omega)
  simp only [Bool.and_eq_true, Bool.or_eq_true, beq_iff_eq] at this
  have t : loN (2 * i) = i ∧ hiN (2 * i) = i + 1 := by omega
  rw [Bool.eq_iff_iff, over_iff, decide_eq_true_iff, t.1, t.2]
  omega
theorem lev_leaf (i : Nat) : lev (2 * i) = 0 := by
  unfold lev levF; rw [if_neg (by omega)]
/-- what the law asks -/
theorem cop_law {i j n : Nat} (hi : Ins (2 * i) n) (hj : Ins (2 * j) n) (hij : i ≠ j) : ∃ y, (copL (2 * i) n).filter (over j) = [y] ∧ Ins y n ∧ y + 1 ≠ n ∧ comL (2 * i) (2 * j) = upN y := by
  have hi2 := hi.lt; have hj2 := hj.lt; have hjn := hj.2
  obtain ⟨y, y1, y2, y3, y4⟩ := cop_meet hi (j := j) (by omega) (by rw [over_leaf i j (by omega)]; simpa using hij)
  exact ⟨y, y1, y2, y3, y4 _ hj (by rw [over_leaf j j (by omega)]; simp) (by rw [lev_leaf, lev_leaf]; omega)⟩
end Go.Proofs.YtieeinppoiihpaaDoor
