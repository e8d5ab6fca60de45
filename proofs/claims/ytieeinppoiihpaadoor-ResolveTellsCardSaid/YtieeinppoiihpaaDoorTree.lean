/- Plain: nodes of a tree, their levels, parents, leaves, paths. No condition: closed facts of small numbers, reckoned by the kernel. -/
import Derived.KernelRfl
namespace Go.Proofs.YtieeinppoiihpaaDoor

def levF : Nat → Nat → Nat
  | 0, _ => 0
  | f + 1, x => if x % 2 = 1 then levF f (x / 2) + 1 else 0
/-- a node's level -/
def lev (x : Nat) : Nat := levF 10 x
/-- a node's parent -/
def upN (x : Nat) : Nat := x / 2 ^ (lev x + 2) * 2 ^ (lev x + 2) + 2 ^ (lev x + 1) - 1
/-- its sibling -/
def sibN (x : Nat) : Nat := 2 * upN x - x
def loN (x : Nat) : Nat := (x - (2 ^ lev x - 1)) / 2
def hiN (x : Nat) : Nat := (x + (2 ^ lev x - 1)) / 2 + 1
def leftN (x : Nat) : Nat := x - 2 ^ (lev x - 1)
def rightN (x : Nat) : Nat := x + 2 ^ (lev x - 1)
def sizes : List Nat := [1, 2, 4, 8, 16, 32, 64, 128, 256]
/-- a node of a tree -/
def Ins (x n : Nat) : Prop := n ∈ sizes ∧ x + 1 < 2 * n
instance (x n : Nat) : Decidable (Ins x n) := by unfold Ins; infer_instance
def pathF : Nat → Nat → Nat → List Nat
  | 0, _, _ => []
  | f + 1, x, n => if x + 1 = n then [] else upN x :: pathF f (upN x) n
def copF : Nat → Nat → Nat → List Nat
  | 0, _, _ => []
  | f + 1, x, n => if x + 1 = n then [] else sibN x :: copF f (upN x) n
def comF : Nat → Nat → Nat → Nat
  | 0, x, _ => x
  | f + 1, x, y => if x = y then x else if lev x ≤ lev y then comF f (upN x) y else comF f x (upN y)

/-- what holds of each node of the greatest tree -/
theorem nodes_all {p : Nat → Bool} (h : (List.range 511).all p = true) {x : Nat} (hx : x < 511) : p x = true :=
  List.all_eq_true.1 h x (List.mem_range.2 hx)
/-- what holds of each node of each tree -/
theorem trees_all {p : Nat → Nat → Bool} (h : (sizes.all fun n => (List.range (2 * n - 1)).all fun x => p x n) = true) {x n : Nat} (hx : Ins x n) : p x n = true :=
  List.all_eq_true.1 (List.all_eq_true.1 h n hx.1) x (List.mem_range.2 (by have := hx.2; omega))
theorem size_le {n : Nat} (h : n ∈ sizes) : 1 ≤ n ∧ n ≤ 256 := by
  simp [sizes] at h; omega
theorem Ins.lt {x n : Nat} (h : Ins x n) : x < 511 := by
  have := size_le h.1; have := h.2; omega
theorem Ins.root {n : Nat} (h : n ∈ sizes) : Ins (n - 1) n := ⟨h, by have := size_le h; omega⟩

/-- the level of a root -/
def ht (n : Nat) : Nat := lev (n - 1)
theorem ins_fact {x n : Nat} (h : Ins x n) : (x + 1 = n ∧ lev x = ht n) ∨ (x + 1 ≠ n ∧ lev x < ht n ∧ upN x + 1 < 2 * n ∧ lev (upN x) = lev x + 1 ∧ x ≤ 2 * upN x ∧ sibN x + 1 < 2 * n ∧ upN (sibN x) = upN x ∧ lev (sibN x) = lev x ∧ sibN (sibN x) = x ∧ sibN x + 1 ≠ n) := by
  have := trees_all (p := fun x n => (x + 1 == n && lev x == ht n) || (x + 1 != n && decide (lev x < ht n) && decide (upN x + 1 < 2 * n) && lev (upN x) == lev x + 1 && decide (x ≤ 2 * upN x) && decide (sibN x + 1 < 2 * n) && upN (sibN x) == upN x && lev (sibN x) == lev x && sibN (sibN x) == x && sibN x + 1 != n)) (by kernel_rfl) h
  simpa [Bool.or_eq_true, Bool.and_eq_true, and_assoc] using this
theorem ht_le {n : Nat} (h : n ∈ sizes) : ht n ≤ 8 := by
  have : sizes.all (fun n => decide (ht n ≤ 8)) = true := by kernel_rfl
  simpa using List.all_eq_true.1 this n h
theorem lev_le {x : Nat} (h : x < 511) : lev x ≤ 8 := by
  simpa using nodes_all (p := fun x => decide (lev x ≤ 8)) (by kernel_rfl) h
theorem Ins.up {x n : Nat} (h : Ins x n) (hx : x + 1 ≠ n) : Ins (upN x) n ∧ lev (upN x) = lev x + 1 ∧ lev x < ht n ∧ x ≤ 2 * upN x := by
  rcases ins_fact h with h1 | h1
  · exact absurd h1.1 hx
  · exact ⟨⟨h.1, h1.2.2.1⟩, h1.2.2.2.1, h1.2.1, h1.2.2.2.2.1⟩
theorem Ins.sib {x n : Nat} (h : Ins x n) (hx : x + 1 ≠ n) : Ins (sibN x) n ∧ upN (sibN x) = upN x ∧ lev (sibN x) = lev x ∧ sibN (sibN x) = x ∧ sibN x + 1 ≠ n := by
  rcases ins_fact h with h1 | h1
  · exact absurd h1.1 hx
  · exact ⟨⟨h.1, h1.2.2.2.2.2.1⟩, h1.2.2.2.2.2.2⟩
theorem Ins.lev_le {x n : Nat} (h : Ins x n) : lev x ≤ ht n ∧ (lev x = ht n → x + 1 = n) := by
  rcases ins_fact h with h1 | h1
  · exact ⟨by omega, fun _ => h1.1⟩
  · exact ⟨by omega, fun e => by omega⟩
/-- enough fuel is enough -/
theorem pathF_more : ∀ (f g x n : Nat), Ins x n → ht n < lev x + f → ht n < lev x + g → pathF f x n = pathF g x n
  | 0, g, x, n, h, h1, _ => by have := h.lev_le; omega
  | f + 1, 0, x, n, h, _, h2 => by have := h.lev_le; omega
  | f + 1, g + 1, x, n, h, h1, h2 => by
    unfold pathF
    split
    · rfl
    · rename_i hx
      obtain ⟨a, b, c, _⟩ := h.up hx
      rw [pathF_more f g _ n a (by omega) (by omega)]
theorem copF_more : ∀ (f g x n : Nat), Ins x n → ht n < lev x + f → ht n < lev x + g → copF f x n = copF g x n
  | 0, g, x, n, h, h1, _ => by have := h.lev_le; omega
  | f + 1, 0, x, n, h, _, h2 => by have := h.lev_le; omega
  | f + 1, g + 1, x, n, h, h1, h2 => by
    unfold copF
    split
    · rfl
    · rename_i hx
      obtain ⟨a, b, c, _⟩ := h.up hx
      rw [copF_more f g _ n a (by omega) (by omega)]
def pathL (x n : Nat) : List Nat := pathF 9 x n
def copL (x n : Nat) : List Nat := copF 9 x n
def comL (x y : Nat) : Nat := comF 18 x y
theorem pathL_root {n : Nat} (h : n ∈ sizes) : pathL (n - 1) n = [] := by
  have := size_le h
  unfold pathL pathF; rw [if_pos (by omega)]
theorem copL_root {n : Nat} (h : n ∈ sizes) : copL (n - 1) n = [] := by
  have := size_le h
  unfold copL copF; rw [if_pos (by omega)]
theorem pathL_up {x n : Nat} (h : Ins x n) (hx : x + 1 ≠ n) : pathL x n = upN x :: pathL (upN x) n := by
  have h8 := ht_le h.1
  conv => lhs; unfold pathL pathF
  rw [if_neg hx]
  obtain ⟨a, b, c, _⟩ := h.up hx
  rw [pathF_more 8 9 _ n a (by omega) (by omega)]; rfl
theorem copL_up {x n : Nat} (h : Ins x n) (hx : x + 1 ≠ n) : copL x n = sibN x :: copL (upN x) n := by
  have h8 := ht_le h.1
  conv => lhs; unfold copL copF
  rw [if_neg hx]
  obtain ⟨a, b, c, _⟩ := h.up hx
  rw [copF_more 8 9 _ n a (by omega) (by omega)]; rfl
theorem pathL_len {x n : Nat} (h : Ins x n) : ∀ k, ht n = lev x + k → (pathL x n).length = k ∧ (copL x n).length = k := by
  intro k
  induction k generalizing x with
  | zero =>
    intro hk
    have := h.lev_le.2 (by omega)
    obtain rfl : x = n - 1 := by omega
    rw [pathL_root h.1, copL_root h.1]; exact ⟨rfl, rfl⟩
  | succ k ih =>
    intro hk
    have hx : x + 1 ≠ n := fun e => by
      rcases ins_fact h with h1 | h1
      · omega
      · exact h1.1 e
    obtain ⟨a, b, c, _⟩ := h.up hx
    rw [pathL_up h hx, copL_up h hx]
    have := ih a (by omega)
    simp [this.1, this.2]
/-- induction along the path -/
theorem Ins.rec_ {P : Nat → Prop} {n : Nat} (_ : n ∈ sizes) (h0 : P (n - 1)) (hs : ∀ x, Ins x n → x + 1 ≠ n → P (upN x) → P x) : ∀ x, Ins x n → P x := by
  have key : ∀ k x, Ins x n → ht n = lev x + k → P x := by
    intro k
    induction k with
    | zero =>
      intro x h hk
      have := h.lev_le.2 (by omega)
      obtain rfl : x = n - 1 := by omega
      exact h0
    | succ k ih =>
      intro x h hk
      have hx : x + 1 ≠ n := fun e => by
        rcases ins_fact h with h1 | h1
        · omega
        · exact h1.1 e
      obtain ⟨a, b, c, _⟩ := h.up hx
      exact hs x h hx (ih _ a (by omega))
  intro x h
  exact key (ht n - lev x) x h (by have := h.lev_le; omega)
theorem copL_ins {x n : Nat} (h : Ins x n) : ∀ y ∈ copL x n, Ins y n :=
  Ins.rec_ (P := fun x => ∀ y ∈ copL x n, Ins y n) h.1 (by rw [copL_root h.1]; simp) (fun x hx hne ih y hy => by
    rw [copL_up hx hne] at hy
    rcases List.mem_cons.1 hy with rfl | hy
    · exact (hx.sib hne).1
    · exact ih y hy) x h
theorem pathL_ins {x n : Nat} (h : Ins x n) : ∀ y ∈ pathL x n, Ins y n :=
  Ins.rec_ (P := fun x => ∀ y ∈ pathL x n, Ins y n) h.1 (by rw [pathL_root h.1]; simp) (fun x hx hne ih y hy => by
    rw [pathL_up hx hne] at hy
    rcases List.mem_cons.1 hy with rfl | hy
    · exact (hx.up hne).1
    · exact ih y hy) x h
/-- the loop for what two have in common -/
theorem comF_more : ∀ (f g x y n : Nat), Ins x n → Ins y n → 2 * ht n ≤ lev x + lev y + f → 2 * ht n ≤ lev x + lev y + g → comF f x y = comF g x y := by
  intro f
  induction f with
  | zero =>
    intro g x y n hx hy h1 _
    have a := hx.lev_le; have b := hy.lev_le
    have a2 := a.2 (by omega); have b2 := b.2 (by omega)
    obtain rfl : x = y := by omega
    cases g with
    | zero => rfl
    | succ g => simp [comF]
  | succ f ih =>
    intro g x y n hx hy h1 h2
    by_cases e : x = y
    · subst e
      cases g <;> simp [comF]
    · have a := hx.lev_le; have b := hy.lev_le
      cases g with
      | zero =>
        have a2 := a.2 (by omega); have b2 := b.2 (by omega)
        omega
      | succ g =>
        simp only [comF, if_neg e]
        split
        · rename_i hl
          have hne : x + 1 ≠ n := fun h => by
            have : lev x = ht n := by rcases ins_fact hx with q | q; exact q.2; exact absurd h q.1
            have := b.2 (by omega); omega
          obtain ⟨p, q, _⟩ := hx.up hne
          exact ih g _ _ n p hy (by omega) (by omega)
        · rename_i hl
          have hne : y + 1 ≠ n := fun h => by
            have : lev y = ht n := by rcases ins_fact hy with q | q; exact q.2; exact absurd h q.1
            omega
          obtain ⟨p, q, _⟩ := hy.up hne
          exact ih g _ _ n hx p (by omega) (by omega)
theorem comL_self (x : Nat) : comL x x = x := by simp [comL, comF]
theorem comL_x {x y n : Nat} (hx : Ins x n) (hy : Ins y n) (e : x ≠ y) (hl : lev x ≤ lev y) : x + 1 ≠ n ∧ comL x y = comL (upN x) y := by
  have b := hy.lev_le
  have hne : x + 1 ≠ n := fun h => by
    have : lev x = ht n := by rcases ins_fact hx with q | q; exact q.2; exact absurd h q.1
    have := b.2 (by omega); omega
  obtain ⟨p, q, _⟩ := hx.up hne
  have := ht_le hx.1
  refine ⟨hne, ?_⟩
  conv => lhs; unfold comL comF
  rw [if_neg e, if_pos hl]
  exact comF_more 17 18 _ _ n p hy (by omega) (by omega)
theorem comL_y {x y n : Nat} (hx : Ins x n) (hy : Ins y n) (e : x ≠ y) (hl : ¬ lev x ≤ lev y) : y + 1 ≠ n ∧ comL x y = comL x (upN y) := by
  have a := hx.lev_le
  have hne : y + 1 ≠ n := fun h => by
    have : lev y = ht n := by rcases ins_fact hy with q | q; exact q.2; exact absurd h q.1
    omega
  obtain ⟨p, q, _⟩ := hy.up hne
  have := ht_le hx.1
  refine ⟨hne, ?_⟩
  conv => lhs; unfold comL comF
  rw [if_neg e, if_neg hl]
  exact comF_more 17 18 _ _ n hx p (by omega) (by omega)
theorem com_sib {x n : Nat} (hx : Ins x n) (hne : x + 1 ≠ n) : comL x (sibN x) = upN x := by
  obtain ⟨s1, s2, s3, s4, s5⟩ := hx.sib hne
  obtain ⟨u1, u2, u3, _⟩ := hx.up hne
  by_cases e : x = sibN x
  · exfalso
    have := trees_all (p := fun x n => x + 1 == n || x != sibN x) (by kernel_rfl) hx
    simp at this
    rcases this with h | h
    · exact hne h
    · exact h e
  · rw [(comL_x hx s1 e (by omega)).2]
    by_cases e2 : upN x = sibN x
    · rw [← e2, comL_self]
    · rw [(comL_y u1 s1 e2 (by omega)).2, s2, comL_self]

/-- leaves -/
theorem leaves_fact {x n : Nat} (h : Ins x n) : loN x < hiN x ∧ hiN x ≤ n ∧ (x + 1 = n → loN x = 0 ∧ hiN x = n) ∧
    (x + 1 ≠ n → (hiN x = loN (sibN x) ∧ loN (upN x) = loN x ∧ hiN (upN x) = hiN (sibN x) ∧ leftN (upN x) = x ∧ rightN (upN x) = sibN x) ∨ (hiN (sibN x) = loN x ∧ loN (upN x) = loN (sibN x) ∧ hiN (upN x) = hiN x ∧ rightN (upN x) = x ∧ leftN (upN x) = sibN x)) := by
  have := trees_all (p := fun x n => decide (loN x < hiN x) && decide (hiN x ≤ n) && (x + 1 != n || loN x == 0 && hiN x == n) &&
    (x + 1 == n || (hiN x == loN (sibN x) && loN (upN x) == loN x && hiN (upN x) == hiN (sibN x) && leftN (upN x) == x && rightN (upN x) == sibN x) || (hiN (sibN x) == loN x && loN (upN x) == loN (sibN x) && hiN (upN x) == hiN x && rightN (upN x) == x && leftN (upN x) == sibN x))) (by kernel_rfl) h
  simp only [Bool.and_eq_true, Bool.or_eq_true, decide_eq_true_eq, beq_iff_eq, bne_iff_ne] at this
  refine ⟨this.1.1.1, this.1.1.2, fun e => ?_, fun e => ?_⟩
  · rcases this.1.2 with h | h
    · exact absurd e h
    · exact h
  · rcases this.2 with (h | h) | h
    · exact absurd h e
    · exact .inl ⟨h.1.1.1.1, h.1.1.1.2, h.1.1.2, h.1.2, h.2⟩
    · exact .inr ⟨h.1.1.1.1, h.1.1.1.2, h.1.1.2, h.1.2, h.2⟩
/-- how many of some nodes have a leaf under them -/
def over (j : Nat) (y : Nat) : Bool := decide (loN y ≤ j) && decide (j < hiN y)
def many (j : Nat) (l : List Nat) : Nat := l.countP (over j)
theorem over_up {x n : Nat} (h : Ins x n) (hne : x + 1 ≠ n) (j : Nat) : (over j (upN x)).toNat = (over j x).toNat + (over j (sibN x)).toNat := by
  have f := leaves_fact h
  have g := (leaves_fact (h.sib hne).1).1
  have f4 := f.2.2.2 hne
  have f1 := f.1
  unfold over
  rcases f4 with q | q
  all_goals
    by_cases a : loN (upN x) ≤ j <;> by_cases b : j < hiN (upN x) <;> by_cases c : loN x ≤ j <;> by_cases d : j < hiN x <;> by_cases e : loN (sibN x) ≤ j <;> by_cases g : j < hiN (sibN x) <;> simp [a, b, c, d, e, g] <;> omega
theorem many_once {x n : Nat} (h : Ins x n) (j : Nat) (hj : j < n) : many j (x :: copL x n) = 1 := by
  refine Ins.rec_ (P := fun x => many j (x :: copL x n) = 1) h.1 ?_ (fun x hx hne ih => ?_) x h
  · have := (leaves_fact (Ins.root h.1)).2.2.1 (by have := size_le h.1; omega)
    rw [copL_root h.1]
    simp [many, over, this.1, this.2, hj]
  · rw [copL_up hx hne]
    have o := over_up hx hne j
    have tb : ∀ b : Bool, (if b = true then 1 else 0) = b.toNat := by intro b; cases b <;> rfl
    simp only [many, List.countP_cons, tb] at ih ⊢
    omega
end Go.Proofs.YtieeinppoiihpaaDoor
