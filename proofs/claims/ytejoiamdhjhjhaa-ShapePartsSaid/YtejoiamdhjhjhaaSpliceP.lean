/- Plain: a step laid behind each so many steps. -/
import Derived.Test.YtejoiamdhjhjhaaRefAlike
namespace Go.Proofs.Ytejoiamdhjhjhaa

/-- the step laid behind each m-th, the count beginning at i -/
def splA (m : Nat) (s : St) : Nat → List St → List St
  | _, [] => []
  | i, x :: r => if (i + 1) % m = 0 then x :: s :: splA m s (i + 1) r else x :: splA m s (i + 1) r
def spl (m : Nat) (s : St) (l : List St) : List St := splA m s 0 l
theorem splA_append (m : Nat) (s : St) : ∀ (a b : List St) (i : Nat), splA m s i (a ++ b) = splA m s i a ++ splA m s (i + a.length) b
  | [], b, i => by simp [splA]
  | x :: r, b, i => by
    have h := splA_append m s r b (i + 1)
    rw [show i + 1 + r.length = i + (x :: r).length by simp; omega] at h
    simp only [List.cons_append, splA, h]
    split <;> simp
theorem spl_snoc (m : Nat) (s x : St) (l : List St) : spl m s (l ++ [x]) = if (l.length + 1) % m = 0 then spl m s l ++ [x, s] else spl m s l ++ [x] := by
  unfold spl
  rw [splA_append]
  simp only [splA, Nat.zero_add]
  split <;> rfl
theorem splA_part (m : Nat) (s : St) : ∀ (c : List St) (i : Nat), 1 ≤ m → i % m + c.length ≤ m → splA m s i c = c ++ (if i % m + c.length = m then [s] else [])
  | [], i, hm, _ => by
    have := Nat.mod_lt i (show m > 0 by omega)
    rw [if_neg (by simp; omega)]; rfl
  | x :: r, i, hm, h => by
    simp only [List.length_cons] at h ⊢
    have hlt := Nat.mod_lt i (show m > 0 by omega)
    by_cases e : i % m + 1 = m
    · have hz : (i + 1) % m = 0 := by
        by_cases h1 : m = 1
        · subst h1; omega
        · rw [Nat.add_mod, Nat.mod_eq_of_lt (show 1 < m by omega), e, Nat.mod_self]
      have hr : r = [] := List.eq_nil_of_length_eq_zero (by omega)
      subst hr
      simp only [splA, List.length_nil]
      rw [if_pos hz, if_pos (by omega)]; rfl
    · have hz : (i + 1) % m = i % m + 1 := by
        rw [Nat.add_mod, Nat.mod_eq_of_lt (show 1 < m by omega), Nat.mod_eq_of_lt (by omega)]
      have ih := splA_part m s r (i + 1) hm (by omega)
      simp only [splA]
      rw [if_neg (by omega), ih, hz]
      by_cases q : i % m + 1 + r.length = m
      · rw [if_pos q, if_pos (by omega)]; rfl
      · rw [if_neg q, if_neg (by omega)]; rfl
theorem spl_zero (s : St) (l : List St) : spl 0 s l = l := by
  unfold spl
  have : ∀ (l : List St) (i : Nat), splA 0 s i l = l := by
    intro l
    induction l with
    | nil => intro i; rfl
    | cons x r ih => intro i; simp only [splA, Nat.mod_zero]; rw [if_neg (by omega), ih]
  exact this l 0
def part (l : List St) (m k : Nat) : List St := (l.drop (k * m)).take m
def spP (l : List St) (m : Nat) (s : St) (k : Nat) : List St := part l m k ++ (if (part l m k).length = m then [s] else [])
def spF (l : List St) (m : Nat) (s : St) (ks : List Nat) : List St := ks.flatMap (spP l m s)
theorem spF_snoc (l : List St) (m : Nat) (s : St) (ks : List Nat) (k : Nat) : spF l m s (ks ++ [k]) = spF l m s ks ++ spP l m s k := by simp [spF]
theorem part_len (l : List St) (m k : Nat) : (part l m k).length = min m (l.length - k * m) := by simp [part]
theorem spF_len (l : List St) (m : Nat) (s : St) (ks : List Nat) : (spF l m s ks).length ≤ ks.length * (l.length + 1) := by
  induction ks with
  | nil => simp [spF]
  | cons k r ih =>
    have : spF l m s (k :: r) = spP l m s k ++ spF l m s r := by simp [spF]
    rw [this, List.length_append]
    have h1 : (spP l m s k).length ≤ l.length + 1 := by
      have := part_len l m k
      unfold spP
      rw [List.length_append]
      split <;> simp <;> omega
    rw [List.length_cons, Nat.succ_mul]; omega
theorem spF_range (l : List St) (m : Nat) (s : St) (hm : 1 ≤ m) : ∀ k : Nat, spF l m s (List.range k) = spl m s (l.take (k * m))
  | 0 => by simp [spF, spl, splA]
  | k + 1 => by
    rw [List.range_succ, spF_snoc, spF_range l m s hm k]
    have e : l.take ((k + 1) * m) = l.take (k * m) ++ part l m k := by
      unfold part; rw [Nat.succ_mul, List.take_add]
    rw [e]
    unfold spl
    rw [splA_append]
    congr 1
    have hp := part_len l m k
    by_cases h : k * m ≤ l.length
    · rw [List.length_take, Nat.min_eq_left h, Nat.zero_add]
      have := splA_part m s (part l m k) (k * m) hm (by rw [Nat.mul_mod_left]; omega)
      rw [this, Nat.mul_mod_left, Nat.zero_add]; rfl
    · have : part l m k = [] := List.eq_nil_of_length_eq_zero (by omega)
      unfold spP
      rw [this]
      rw [if_neg (by simp; omega)]; rfl
theorem spF_all (l : List St) (m : Nat) (s : St) (hm : 1 ≤ m) (k : Nat) (h : l.length ≤ k * m) : spF l m s (List.range k) = spl m s l := by
  rw [spF_range l m s hm k, List.take_of_length_le h]
theorem spl_len (m : Nat) (s : St) (l : List St) : (spl m s l).length ≤ 2 * l.length := by
  unfold spl
  have : ∀ (l : List St) (i : Nat), (splA m s i l).length ≤ 2 * l.length := by
    intro l
    induction l with
    | nil => intro i; simp [splA]
    | cons x r ih => intro i; have := ih (i + 1); simp only [splA]; split <;> simp <;> omega
  exact this l 0
end Go.Proofs.Ytejoiamdhjhjhaa
