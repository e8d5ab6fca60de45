/- Plain laws of unpadding; no program in sight. -/
import Derived.Test.YtejhphjilmpfkaaPlain
namespace Go.Proofs.Ytejhphjilmpfkaa

/-- the filling taken away; none: it is not filled up -/
def unpadL (l : List UInt8) : Option (List UInt8) :=
  match l.reverse.dropWhile (· == 0) with
  | [] => none
  | x :: r => if x = 128 ∧ r.length < 65536 ∧ bk r.length = l.length then some r.reverse else none

theorem dropWhile_zero_append (a b : List UInt8) (h : ∀ x ∈ a, x = 0) : (a ++ b).dropWhile (· == 0) = b.dropWhile (· == 0) := by
  induction a with
  | nil => rfl
  | cons x r ih =>
    have hx : x = 0 := h x (by simp)
    subst hx
    rw [List.cons_append, List.dropWhile_cons_of_pos (by rfl)]
    exact ih fun y hy => h y (by simp [hy])
theorem rev_at (l : List UInt8) (i : Nat) (hi : i < l.length) (hz : ∀ j (hj : j < l.length), i < j → l[j] = 0) (hx : l[i] ≠ 0) :
    l.reverse.dropWhile (· == 0) = l[i] :: (l.take i).reverse := by
  have e : l = l.take i ++ (l[i] :: l.drop (i + 1)) := by
    rw [← List.drop_eq_getElem_cons hi, List.take_append_drop]
  conv => lhs; rw [e]
  rw [List.reverse_append, List.reverse_cons, List.append_assoc, List.singleton_append, dropWhile_zero_append _ _ ?_]
  · rw [List.dropWhile_cons_of_neg (by simpa using hx)]
  · intro x hx
    rw [List.mem_reverse] at hx
    obtain ⟨j, hj, rfl⟩ := List.getElem_of_mem hx
    rw [List.getElem_drop]
    exact hz _ _ (by omega)
theorem unpadL_zero (l : List UInt8) (h : ∀ j (hj : j < l.length), l[j] = 0) : unpadL l = none := by
  have : l.reverse.dropWhile (· == 0) = [] := by
    have := dropWhile_zero_append l.reverse [] (fun x hx => by
      rw [List.mem_reverse] at hx
      obtain ⟨j, hj, rfl⟩ := List.getElem_of_mem hx
      exact h j hj)
    simpa using this
  unfold unpadL; rw [this]
theorem unpadL_at (l : List UInt8) (i : Nat) (hi : i < l.length) (hz : ∀ j (hj : j < l.length), i < j → l[j] = 0) (hx : l[i] ≠ 0) :
    unpadL l = if l[i] = 128 ∧ i < 65536 ∧ bk i = l.length then some (l.take i) else none := by
  unfold unpadL; rw [rev_at l i hi hz hx]
  simp only [List.length_reverse, List.length_take, List.reverse_reverse]
  rw [Nat.min_eq_left (by omega)]

theorem unpad_pad (l : List UInt8) (h : l.length < 65536) : unpadL (padL l) = some l := by
  have hb := lt_bk l.length h
  have hl := padL_length l h
  have e := unpadL_at (padL l) l.length (by rw [hl]; exact hb) (fun j hj hlt => by
    simp only [padL]
    rw [List.getElem_append_right (by omega)]
    obtain ⟨k, hk⟩ : ∃ k, j - l.length = k + 1 := ⟨j - l.length - 1, by omega⟩
    simp only [hk, List.getElem_cons_succ, List.getElem_replicate]) (by simp [padL])
  rw [e, if_pos ⟨by simp [padL], h, hl.symm⟩]
  simp [padL]
/-- the last byte that is not zero, or none -/
theorem last_or (l : List UInt8) : (∀ j (hj : j < l.length), l[j] = 0) ∨ ∃ i, ∃ hi : i < l.length, (∀ j (hj : j < l.length), i < j → l[j] = 0) ∧ l[i] ≠ 0 := by
  have key : ∀ k, (∀ j (hj : j < l.length), l.length - k ≤ j → l[j] = 0) ∨ ∃ i, ∃ hi : i < l.length, (∀ j (hj : j < l.length), i < j → l[j] = 0) ∧ l[i] ≠ 0 := by
    intro k
    induction k with
    | zero => exact .inl fun j hj h => absurd hj (by omega)
    | succ k ih =>
      rcases ih with h | h
      · by_cases hk : k < l.length
        · by_cases hx : l[l.length - (k + 1)]'(by omega) = 0
          · refine .inl fun j hj hle => ?_
            by_cases e : j = l.length - (k + 1)
            · subst e; exact hx
            · exact h j hj (by omega)
          · exact .inr ⟨_, _, fun j hj hlt => h j hj (by omega), hx⟩
        · exact .inl fun j hj _ => h j hj (by omega)
      · exact .inr h
  rcases key l.length with h | h
  · exact .inl fun j hj => h j hj (by omega)
  · exact .inr h
theorem pad_unpad (l y : List UInt8) (h : unpadL l = some y) : y.length < 65536 ∧ padL y = l := by
  rcases last_or l with hz | ⟨i, hi, hz, hx⟩
  · rw [unpadL_zero l hz] at h; cases h
  · rw [unpadL_at l i hi hz hx] at h
    split at h
    · rename_i hg
      obtain ⟨g1, g2, g3⟩ := hg
      injection h with h; subst h
      have hl : (l.take i).length = i := by simp; omega
      refine ⟨by omega, ?_⟩
      have e : l = l.take i ++ (l[i] :: l.drop (i + 1)) := by
        rw [← List.drop_eq_getElem_cons hi, List.take_append_drop]
      conv => rhs; rw [e]
      unfold padL
      rw [hl, g1, g3]
      congr 2
      apply List.ext_getElem
      · simp; omega
      · intro j h1 h2
        rw [List.getElem_replicate, List.getElem_drop]
        exact (hz _ _ (by omega)).symm
    · cases h
end Go.Proofs.Ytejhphjilmpfkaa
