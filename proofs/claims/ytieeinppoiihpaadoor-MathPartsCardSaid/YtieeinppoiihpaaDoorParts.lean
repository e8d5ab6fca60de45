/- Plain: each leaf of a tree stands just once under a node and its copath; what stands at each place of a path. -/
import Derived.Test.YtieeinppoiihpaaDoorTree
namespace Go.Proofs.YtieeinppoiihpaaDoor

theorem path_at {x n : Nat} (h : Ins x n) : ∀ k, k < (pathL x n).length → ∃ b, Ins b n ∧ b + 1 ≠ n ∧ (pathL x n)[k]? = some (upN b) ∧ (copL x n)[k]? = some (sibN b) ∧ lev b = lev x + k ∧ ((k = 0 ∧ b = x) ∨ (0 < k ∧ (pathL x n)[k - 1]? = some b)) := by
  refine Ins.rec_ (P := fun x => ∀ k, k < (pathL x n).length → ∃ b, Ins b n ∧ b + 1 ≠ n ∧ (pathL x n)[k]? = some (upN b) ∧ (copL x n)[k]? = some (sibN b) ∧ lev b = lev x + k ∧ ((k = 0 ∧ b = x) ∨ (0 < k ∧ (pathL x n)[k - 1]? = some b))) h.1 ?_ (fun x hx hne ih k hk => ?_) x h
  · intro k hk
    rw [pathL_root h.1] at hk; simp at hk
  · rw [pathL_up hx hne, copL_up hx hne] at *
    match k with
    | 0 => exact ⟨x, hx, hne, rfl, rfl, by omega, .inl ⟨rfl, rfl⟩⟩
    | k + 1 =>
      obtain ⟨b, b1, b2, b3, b4, b5, b6⟩ := ih k (by simpa using hk)
      obtain ⟨_, u2, _⟩ := hx.up hne
      refine ⟨b, b1, b2, by simpa using b3, by simpa using b4, by omega, .inr ⟨by omega, ?_⟩⟩
      rcases b6 with ⟨rfl, rfl⟩ | ⟨h0, h1⟩
      · rfl
      · obtain ⟨j, rfl⟩ : ∃ j, k = j + 1 := ⟨k - 1, by omega⟩
        simpa using h1
theorem path_last {x n : Nat} (h : Ins x n) : 0 < (pathL x n).length → (pathL x n)[(pathL x n).length - 1]? = some (n - 1) := by
  refine Ins.rec_ (P := fun x => 0 < (pathL x n).length → (pathL x n)[(pathL x n).length - 1]? = some (n - 1)) h.1 ?_ (fun x hx hne ih _ => ?_) x h
  · rw [pathL_root h.1]; simp
  · rw [pathL_up hx hne]
    obtain ⟨u1, _⟩ := hx.up hne
    rcases Nat.eq_zero_or_pos (pathL (upN x) n).length with h0 | h0
    · have := List.eq_nil_of_length_eq_zero h0
      have hr : upN x + 1 = n := by
        apply Classical.byContradiction
        intro hn
        rw [pathL_up u1 hn] at this; cases this
      rw [this]; simp; omega
    · have := ih h0
      obtain ⟨j, hj⟩ : ∃ j, (pathL (upN x) n).length = j + 1 := ⟨_, (Nat.sub_add_cancel h0).symm⟩
      rw [hj] at this
      simpa [hj] using this
theorem path_nil {x n : Nat} (h : Ins x n) (h0 : (pathL x n).length = 0) : x + 1 = n := by
  apply Classical.byContradiction
  intro hn
  rw [pathL_up h hn] at h0; simp at h0
theorem up_odd {x n : Nat} (h : Ins x n) (hne : x + 1 ≠ n) : upN x % 2 = 1 ∧ sibN x ≠ x := by
  have := trees_all (p := fun x n => x + 1 == n || (upN x % 2 == 1 && sibN x != x)) (by kernel_rfl) h
  simp only [Bool.or_eq_true, Bool.and_eq_true, beq_iff_eq, bne_iff_ne] at this
  exact this.resolve_left hne
/-- a row of numbers -/
def rng (n : Nat) (f : Nat → Nat) : List Int := (List.range n).map fun j => ((f j : Nat) : Int)
theorem rng_len (n : Nat) (f : Nat → Nat) : (rng n f).length = n := by simp [rng]
theorem rng_get (n : Nat) (f : Nat → Nat) (j : Nat) (hj : j < n) : (rng n f)[j]? = some ((f j : Nat) : Int) := by simp [rng, hj]
theorem rng_set (n : Nat) (f g : Nat → Nat) (i : Nat) (hg : ∀ j, j < n → g j = if j = i then f i + 1 else f j) : (rng n f).set i ((f i : Nat) + 1 : Int) = rng n g := by
  apply List.ext_getElem?
  intro j
  rw [List.getElem?_set]
  by_cases hj : j < n
  · rw [rng_get n g j hj, rng_get n f j hj]
    have := hg j hj
    by_cases e : i = j
    · subst e; rw [if_pos rfl, if_pos (by rw [rng_len]; exact hj), this, if_pos rfl]; simp
    · rw [if_neg e, this, if_neg (fun h => e h.symm)]
  · rw [List.getElem?_eq_none (by rw [rng_len]; omega), List.getElem?_eq_none (by rw [rng_len]; omega)]
    split
    · rw [if_neg (by rw [rng_len]; omega)]
    · rfl
theorem rng_congr (n : Nat) (f g : Nat → Nat) (h : ∀ j, j < n → f j = g j) : rng n f = rng n g := by
  unfold rng
  apply List.map_congr_left
  intro j hj
  rw [h j (List.mem_range.1 hj)]
theorem rng_zero (n : Nat) (f : Nat → Nat) (h : ∀ j, j < n → f j = 0) : rng n f = List.replicate n 0 := by
  rw [rng_congr n f (fun _ => 0) h]
  apply List.ext_getElem?
  intro j
  by_cases hj : j < n <;> simp [rng, hj]
/-- the counts behind so many nodes -/
def cnt (X : List Nat) (k j : Nat) : Nat := many j (X.take k)
theorem cnt_succ (X : List Nat) (k j y : Nat) (h : X[k]? = some y) : cnt X (k + 1) j = cnt X k j + (if loN y ≤ j ∧ j < hiN y then 1 else 0) := by
  unfold cnt many
  rw [List.take_add_one, h, Option.toList_some, List.countP_append]
  have : List.countP (over j) [y] = if loN y ≤ j ∧ j < hiN y then 1 else 0 := by
    simp only [List.countP_cons, List.countP_nil, Nat.zero_add, over, Bool.and_eq_true, decide_eq_true_eq]
  rw [this]
theorem cnt_le (X : List Nat) (k j : Nat) : cnt X k j ≤ X.length := by
  unfold cnt many
  have := List.countP_le_length (p := over j) (l := X.take k)
  rw [List.length_take] at this
  omega
theorem cnt_all {x n : Nat} (h : Ins x n) (j : Nat) (hj : j < n) : cnt (x :: copL x n) ((copL x n).length + 1) j = 1 := by
  have := many_once h j hj
  unfold cnt
  rw [List.take_of_length_le (by simp)]
  exact this
end Go.Proofs.YtieeinppoiihpaaDoor
