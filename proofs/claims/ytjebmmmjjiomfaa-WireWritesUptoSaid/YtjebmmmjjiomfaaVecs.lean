/- What wire.Split reads: the plain side. -/
import Derived.Test.YtjebmmmjjiomfaaOptsWalk
namespace Go.Proofs.Ytjebmmmjjiomfaa
open Go.RowKit

/-- the vectors that bytes are, one behind the other -/
def vecs : Nat → List UInt8 → Option (List (List UInt8))
  | _, [] => some []
  | 0, _ :: _ => none
  | f + 1, b :: r => if (takeB (b :: r)).2.2 ≠ 0 then none else (vecs f ((b :: r).drop (takeB (b :: r)).2.1)).map ((takeB (b :: r)).1 :: ·)
/-- what is read as a list -/
def splitL (l : List UInt8) : Option (List (List UInt8) × Nat) :=
  if (takeB l).2.2 ≠ 0 then none else (vecs (takeB l).1.length (takeB l).1).map fun x => (x, (takeB l).2.1)

theorem takeB_ok (l : List UInt8) (h : (takeB l).2.2 = 0) : bytesL (takeB l).1 = l.take (takeB l).2.1 ∧ 1 ≤ (takeB l).2.1 ∧ (takeB l).2.1 ≤ l.length ∧ (takeB l).1.length < 1073741824 ∧ (takeB l).1.length < (takeB l).2.1 := by
  unfold takeB at h ⊢
  by_cases hi : (takeI l).2.2 = 0
  · have hit := int_take l (takeI l).1 (takeI l).2.1 (by rw [← hi])
    obtain ⟨h1, h2, h3, h4, h5⟩ := hit
    rw [if_neg (by simp [hi])] at h ⊢
    by_cases hs : l.length - (takeI l).2.1 < (takeI l).1
    · rw [if_pos hs] at h; simp at h
    · rw [if_neg hs]
      have hlen : ((l.drop (takeI l).2.1).take (takeI l).1).length = (takeI l).1 := by simp; omega
      refine ⟨?_, by show 1 ≤ _ + _; omega, by show _ + _ ≤ _; omega, by rw [hlen]; exact h1, by rw [hlen]; show _ < _ + _; omega⟩
      show bytesL ((l.drop (takeI l).2.1).take (takeI l).1) = l.take ((takeI l).2.1 + (takeI l).1)
      unfold bytesL
      rw [hlen, h4, List.take_add]
  · rw [if_pos hi] at h; exact absurd h hi
theorem vecs_fuel : ∀ (f g : Nat) (l : List UInt8), l.length ≤ f → l.length ≤ g → vecs f l = vecs g l
  | f, g, [], _, _ => by cases f <;> cases g <;> rfl
  | 0, _, b :: r, h, _ => by simp at h
  | _, 0, b :: r, _, h => by simp at h
  | f + 1, g + 1, b :: r, hf, hg => by
    unfold vecs
    by_cases he : (takeB (b :: r)).2.2 = 0
    · have := takeB_ok _ he
      rw [if_neg (by simp [he]), if_neg (by simp [he])]
      rw [vecs_fuel f g _ (by rw [List.length_drop]; omega) (by rw [List.length_drop]; omega)]
    · rw [if_pos he, if_pos he]
theorem vecs_step (l : List UInt8) (hl : l ≠ []) (h : (takeB l).2.2 = 0) : vecs l.length l = (vecs (l.length - (takeB l).2.1) (l.drop (takeB l).2.1)).map ((takeB l).1 :: ·) := by
  cases l with
  | nil => exact absurd rfl hl
  | cons b r =>
    have := takeB_ok _ h
    show (if _ then _ else _) = _
    rw [if_neg (by simp [h])]
    rw [vecs_fuel r.length ((b :: r).length - (takeB (b :: r)).2.1) _ (by rw [List.length_drop]; simp only [List.length_cons]; omega) (by rw [List.length_drop]; exact Nat.le_refl _)]
theorem vecs_none (l : List UInt8) (hl : l ≠ []) (h : (takeB l).2.2 ≠ 0) : vecs l.length l = none := by
  cases l with
  | nil => exact absurd rfl hl
  | cons b r => show (if _ then _ else _) = _; rw [if_pos h]
/-- what is read is written as these bytes -/
theorem vecs_jl : ∀ (f : Nat) (l : List UInt8) (bss : List (List UInt8)), vecs f l = some bss → jl bss = l ∧ ∀ x ∈ bss, x.length < 1073741824 ∧ x.length ≤ l.length
  | f, [], bss, h => by
    have : bss = [] := by cases f <;> (simp [vecs] at h; exact h)
    subst this; exact ⟨rfl, by simp⟩
  | 0, b :: r, bss, h => by simp [vecs] at h
  | f + 1, b :: r, bss, h => by
    unfold vecs at h
    by_cases he : (takeB (b :: r)).2.2 = 0
    · have ht := takeB_ok _ he
      rw [if_neg (by simp [he])] at h
      cases hv : vecs f ((b :: r).drop (takeB (b :: r)).2.1) with
      | none => rw [hv] at h; simp at h
      | some bs =>
        rw [hv] at h
        simp only [Option.map_some, Option.some.injEq] at h
        subst h
        have := vecs_jl f _ bs hv
        refine ⟨?_, fun x hx => ?_⟩
        · unfold jl
          rw [List.map_cons, List.flatten_cons]
          have e : (bs.map bytesL).flatten = jl bs := rfl
          rw [e, this.1, ht.1, List.take_append_drop]
        · rcases List.mem_cons.1 hx with rfl | hx
          · exact ⟨ht.2.2.2.1, by omega⟩
          · have := this.2 x hx
            rw [List.length_drop] at this
            omega
    · rw [if_pos he] at h; cases h
/-- what was written is read as what it was -/
theorem vecs_of : ∀ (bss : List (List UInt8)), (∀ x ∈ bss, x.length < 1073741824) → vecs (jl bss).length (jl bss) = some bss
  | [], _ => rfl
  | x :: bs, h => by
    have ih := vecs_of bs fun y hy => h y (List.mem_cons_of_mem _ hy)
    have e : jl (x :: bs) = bytesL x ++ jl bs := by simp [jl]
    have ht := takeB_bytes x (jl bs) (h x (by simp))
    have hb := bytesL_len x
    have hi := intL_le x.length
    have hne : jl (x :: bs) ≠ [] := by
      intro e0
      have := congrArg List.length e0
      rw [e, List.length_append, List.length_nil] at this
      omega
    rw [vecs_step _ hne (by rw [e, ht]), e, ht]
    simp only [List.length_append, Nat.add_sub_cancel_left, List.drop_left, ih, Option.map_some]
end Go.Proofs.Ytjebmmmjjiomfaa
