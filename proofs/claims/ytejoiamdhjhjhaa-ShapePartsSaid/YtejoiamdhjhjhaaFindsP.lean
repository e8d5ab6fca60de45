/- Plain: scripts of one shape are one the other's, swapped. -/
import Derived.Test.YtejoiamdhjhjhaaCanon
namespace Go.Proofs.Ytejoiamdhjhjhaa

theorem mem_add1 (o : List Int) (x y : Int) : y ∈ add1 o x ↔ y ∈ o ∨ y = x := by
  unfold add1
  split
  · rename_i h
    exact ⟨.inl, fun q => q.elim id (fun e => e ▸ h)⟩
  · simp
theorem mem_fold : ∀ (xs o : List Int) (y : Int), y ∈ xs.foldl add1 o ↔ y ∈ o ∨ y ∈ xs
  | [], o, y => by simp
  | x :: r, o, y => by
    rw [List.foldl_cons, mem_fold r, mem_add1]
    simp [or_assoc]
theorem mem_act (l : List St) (y : Int) : y ∈ actL l ↔ ∃ s ∈ l, y ∈ who s := by
  have key : ∀ (l : List St) (o : List Int), y ∈ l.foldl addS o ↔ y ∈ o ∨ ∃ s ∈ l, y ∈ who s := by
    intro l
    induction l with
    | nil => intro o; simp
    | cons s r ih =>
      intro o
      rw [List.foldl_cons, ih]
      unfold addS
      rw [mem_fold]
      simp [or_assoc]
  have := key l []
  unfold actL
  simpa using this
theorem mem_who (s : St) (y : Int) : y ∈ who s ↔ ∃ j ∈ nm s.d, fld s j = y := by unfold who; simp
theorem nm_cases (d : Int) : (nm d = [1] ∧ d ≠ 7) ∨ (nm d = [1, 2] ∧ d ≠ 7) ∨ nm d = [] := by
  unfold nm
  split
  · left; exact ⟨rfl, by omega⟩
  · split
    · right; left; exact ⟨rfl, by omega⟩
    · right; right; rfl
theorem tF_fld (f : Int → Int) (s : St) : (tF f s).d = s.d ∧ ∀ j ∈ nm s.d, fld (tF f s) j = f (fld s j) := by
  refine ⟨?_, ?_⟩
  · unfold tF
    split
    · rfl
    · exact tJ_d f s 2
  · intro j hj
    rcases nm_cases s.d with ⟨h, h7⟩ | ⟨h, h7⟩ | h
    · rw [h] at hj
      obtain rfl : j = 1 := by simpa using hj
      unfold tF; rw [if_neg h7]; unfold tJ; rw [h]; rfl
    · rw [h] at hj
      have : j = 1 ∨ j = 2 := by simpa using hj
      unfold tF; rw [if_neg h7]; unfold tJ; rw [h]
      rcases this with rfl | rfl <;> rfl
    · rw [h] at hj; cases hj
theorem can_get (l : List St) (i : Nat) (s : St) (h : l[i]? = some s) : (canL l)[i]? = some (tF (posF (actL l)) s) := by
  unfold canL; rw [List.getElem?_map, h]; rfl
theorem alike_step {l m : List St} (h : canL l = canL m) {i : Nat} {s t : St} (hs : l[i]? = some s) (ht : m[i]? = some t) :
    s.d = t.d ∧ ∀ j ∈ nm s.d, posF (actL l) (fld s j) = posF (actL m) (fld t j) := by
  have h1 := can_get l i s hs
  have h2 := can_get m i t ht
  rw [h] at h1
  have e := Option.some.inj (h1.symm.trans h2)
  have a := tF_fld (posF (actL l)) s
  have b := tF_fld (posF (actL m)) t
  have hd : s.d = t.d := by rw [← a.1, ← b.1, e]
  refine ⟨hd, fun j hj => ?_⟩
  rw [← a.2 j hj, ← b.2 j (hd ▸ hj), e]
theorem can_len {l m : List St} (h : canL l = canL m) : l.length = m.length := by
  have := congrArg List.length h
  simpa [canL] using this
theorem fld_mem {l : List St} {i : Nat} {s : St} (hs : l[i]? = some s) {j : Nat} (hj : j ∈ nm s.d) : fld s j ∈ actL l :=
  (mem_act l _).2 ⟨s, List.mem_of_getElem? hs, (mem_who s _).2 ⟨j, hj, rfl⟩⟩
theorem pos_mem {a : List Int} {x : Int} (h : x ∈ a) : posF a x = (idx a x : Nat) := if_pos h
theorem act_le {l m : List St} (h : canL l = canL m) : (actL l).length ≤ (actL m).length := by
  apply Nat.le_of_not_lt
  intro hlt
  obtain ⟨x, hx⟩ : ∃ x, (actL l)[(actL m).length]? = some x := ⟨_, List.getElem?_eq_getElem hlt⟩
  obtain ⟨s, hsl, hw⟩ := (mem_act l x).1 (List.mem_of_getElem? hx)
  obtain ⟨j, hj, rfl⟩ := (mem_who s x).1 hw
  obtain ⟨i, hs⟩ := List.getElem?_of_mem hsl
  have him : i < m.length := by
    rw [← can_len h]; exact (List.getElem?_eq_some_iff.1 hs).1
  have ht := List.getElem?_eq_getElem him
  obtain ⟨hd, hp⟩ := alike_step h hs ht
  have h1 := hp j hj
  have hy := fld_mem ht (j := j) (hd ▸ hj)
  rw [pos_mem (fld_mem hs hj), pos_mem hy] at h1
  have h2 := idx_get (actL l) _ _ (act_nodup l) hx
  have h3 := (idx_lt (actL m) _ hy).1
  omega
theorem act_eq {l m : List St} (h : canL l = canL m) : (actL l).length = (actL m).length := Nat.le_antisymm (act_le h) (act_le h.symm)
/-- the map from the ones to the others -/
def toF (a b : List Int) (x : Int) : Int := if x ∈ a then b.getD (idx a x) 0 else 0
def toK (a b : List Int) (k : Nat) (x : Int) : Int := if x ∈ a.take k then b.getD (idx a x) 0 else 0
theorem toK_all (a b : List Int) (x : Int) : toK a b a.length x = toF a b x := by unfold toK toF; rw [List.take_length]
theorem toK_step (a b : List Int) (hn : a.Nodup) (k : Nat) (x y : Int) (h : a[k]? = some x) (hb : b[k]? = some y) (z : Int) : (if z = x then y else toK a b k z) = toK a b (k + 1) z := by
  unfold toK
  rw [List.take_add_one, h, Option.toList_some]
  by_cases e : z = x
  · subst e
    rw [if_pos rfl, if_pos (by simp), idx_get a k _ hn h]
    simp [hb]
  · rw [if_neg e]
    by_cases m : z ∈ a.take k
    · rw [if_pos m, if_pos (by simp [m])]
    · rw [if_neg m, if_neg (by simp [m, e])]
theorem to_eq {l m : List St} (h : canL l = canL m) {i : Nat} {s t : St} (hs : l[i]? = some s) (ht : m[i]? = some t) {j : Nat} (hj : j ∈ nm s.d) : toF (actL l) (actL m) (fld s j) = fld t j := by
  obtain ⟨hd, hp⟩ := alike_step h hs ht
  have hx := fld_mem hs hj
  have hy := fld_mem ht (j := j) (hd ▸ hj)
  have h1 := hp j hj
  rw [pos_mem hx, pos_mem hy] at h1
  unfold toF
  rw [if_pos hx]
  have : idx (actL l) (fld s j) = idx (actL m) (fld t j) := by omega
  rw [this, List.getD_eq_getElem?_getD, (idx_lt (actL m) _ hy).2]
  rfl
theorem to_inj {l m : List St} (h : canL l = canL m) {i : Nat} {s t : St} (hs : l[i]? = some s) (ht : m[i]? = some t) {j k : Nat} (hj : j ∈ nm s.d) (hk : k ∈ nm s.d) : fld s j = fld s k ↔ fld t j = fld t k := by
  obtain ⟨hd, hp⟩ := alike_step h hs ht
  constructor
  · intro e; rw [← to_eq h hs ht hj, ← to_eq h hs ht hk, e]
  · intro e
    have hd2 := hd ▸ hj
    rw [← to_eq h.symm ht hs (hd ▸ hj), ← to_eq h.symm ht hs (hd ▸ hk), e]
/-- what the law asks of one step -/
theorem finds_step {l m : List St} (h : canL l = canL m) {i : Nat} {s t : St} (hs : l[i]? = some s) (ht : m[i]? = some t) :
    actL [t] = (actL [s]).map (toF (actL l) (actL m)) := by
  obtain ⟨hd, _⟩ := alike_step h hs ht
  have e1 : ∀ u : St, actL [u] = (who u).foldl add1 [] := fun _ => rfl
  rw [e1, e1]
  unfold who
  rw [← hd]
  rcases nm_cases s.d with ⟨hn, _⟩ | ⟨hn, _⟩ | hn
  · have q1 := to_eq h hs ht (j := 1) (by rw [hn]; simp)
    rw [hn]
    simp [add1, q1]
  · have q1 := to_eq h hs ht (j := 1) (by rw [hn]; simp)
    have q2 := to_eq h hs ht (j := 2) (by rw [hn]; simp)
    have qi := to_inj h hs ht (j := 2) (k := 1) (by rw [hn]; simp) (by rw [hn]; simp)
    rw [hn]
    by_cases e : fld s 2 = fld s 1
    · have e' := qi.1 e
      simp [add1, e, e', q1]
    · have e' : ¬ fld t 2 = fld t 1 := fun q => e (qi.2 q)
      simp [add1, e, e', q1, q2]
  · rw [hn]; rfl
end Go.Proofs.Ytejoiamdhjhjhaa
