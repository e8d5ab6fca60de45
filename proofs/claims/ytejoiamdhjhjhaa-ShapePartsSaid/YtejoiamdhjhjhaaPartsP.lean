/- Plain: a shape's beginning; nameless steps laid between. -/
import Derived.Test.YtejoiamdhjhjhaaTellsWalk
namespace Go.Proofs.Ytejoiamdhjhjhaa

theorem add1_pre (o : List Int) (x : Int) : ∃ r, add1 o x = o ++ r := by
  unfold add1; split
  · exact ⟨[], by simp⟩
  · exact ⟨[x], rfl⟩
theorem foldadd_pre : ∀ (xs o : List Int), ∃ r, xs.foldl add1 o = o ++ r
  | [], o => ⟨[], by simp⟩
  | x :: xs, o => by
    obtain ⟨r, hr⟩ := add1_pre o x
    obtain ⟨r', hr'⟩ := foldadd_pre xs (add1 o x)
    exact ⟨r ++ r', by rw [List.foldl_cons, hr', hr, List.append_assoc]⟩
theorem foldS_pre : ∀ (l : List St) (o : List Int), ∃ r, l.foldl addS o = o ++ r
  | [], o => ⟨[], by simp⟩
  | s :: l, o => by
    obtain ⟨r, hr⟩ := foldadd_pre (who s) o
    obtain ⟨r', hr'⟩ := foldS_pre l (addS o s)
    exact ⟨r ++ r', by rw [List.foldl_cons, hr']; unfold addS; rw [hr, List.append_assoc]⟩
theorem idx_pre : ∀ (a r : List Int) (x : Int), x ∈ a → idx (a ++ r) x = idx a x
  | [], r, x, h => by cases h
  | y :: a, r, x, h => by
    rw [List.cons_append]
    unfold idx
    by_cases e : y = x
    · rw [if_pos e, if_pos e]
    · rw [if_neg e, if_neg e, idx_pre a r x (by rcases List.mem_cons.1 h with q | q; exact absurd q.symm e; exact q)]
theorem pos_pre {a r : List Int} {x : Int} (h : x ∈ a) : posF (a ++ r) x = posF a x := by
  unfold posF; rw [if_pos h, if_pos (List.mem_append_left _ h), idx_pre a r x h]
theorem can_take (l : List St) (k : Nat) : canL (l.take k) = (canL l).take k := by
  obtain ⟨r, hr⟩ := foldS_pre (l.drop k) (actL (l.take k))
  have hl : actL l = actL (l.take k) ++ r := by
    rw [← hr]; unfold actL; rw [← List.foldl_append, List.take_append_drop]
  unfold canL
  rw [← List.map_take]
  refine List.map_congr_left fun s hs => ?_
  refine tF_congr rfl (fun j hj => ?_) (fun _ => rfl)
  rw [hl, pos_pre ((mem_act _ _).2 ⟨s, hs, (mem_who s _).2 ⟨j, hj, rfl⟩⟩)]
/-- steps that name no one change no one's place -/
theorem act_splA (m : Nat) (s : St) (h : nm s.d = []) : ∀ (l : List St) (i : Nat) (o : List Int), (splA m s i l).foldl addS o = l.foldl addS o
  | [], i, o => rfl
  | x :: l, i, o => by
    have := act_splA m s h l (i + 1) (addS o x)
    simp only [splA]
    split
    · rw [List.foldl_cons, List.foldl_cons, List.foldl_cons, addS_0 _ h, this]
    · rw [List.foldl_cons, List.foldl_cons, this]
theorem act_spl (m : Nat) (s : St) (h : nm s.d = []) (l : List St) : actL (spl m s l) = actL l := act_splA m s h l 0 []
theorem map_splA (m : Nat) (s : St) (g : St → St) : ∀ (l : List St) (i : Nat), (splA m s i l).map g = splA m (g s) i (l.map g)
  | [], i => rfl
  | x :: l, i => by
    have := map_splA m s g l (i + 1)
    simp only [splA, List.map_cons]
    split
    · rw [List.map_cons, List.map_cons, this]
    · rw [List.map_cons, this]
theorem can_spl (m : Nat) (of : Int) (l : List St) : canL (spl m ⟨7, 0, of⟩ l) = spl m ⟨7, 0, of⟩ (canL l) := by
  unfold canL
  rw [act_spl m _ rfl]
  unfold spl
  rw [map_splA]
  congr 1
theorem div_succ (i m : Nat) (hm : 1 ≤ m) : (i + 1) / m = if (i + 1) % m = 0 then i / m + 1 else i / m := by
  have h1 := Nat.div_add_mod i m
  have h2 := Nat.mod_lt i (show m > 0 by omega)
  by_cases e : i % m + 1 = m
  · have h3 : i + 1 = m * (i / m + 1) := by rw [Nat.mul_add, Nat.mul_one]; omega
    rw [h3, Nat.mul_mod_right, if_pos rfl, Nat.mul_div_cancel_left _ (by omega)]
  · have h3 : i + 1 = (i % m + 1) + m * (i / m) := by omega
    have h4 : (i + 1) % m = i % m + 1 := by rw [h3, Nat.add_mul_mod_self_left, Nat.mod_eq_of_lt (show i % m + 1 < m by omega)]
    have h5 : (i + 1) / m = i / m := by
      rw [h3, Nat.add_mul_div_left _ _ (by omega), Nat.div_eq_of_lt (show i % m + 1 < m by omega), Nat.zero_add]
    rw [h4, if_neg (by omega), h5]
theorem splA_cnt (m : Nat) (s : St) (hm : 1 ≤ m) : ∀ (l : List St) (i : Nat), (splA m s i l).length + i / m = l.length + (i + l.length) / m ∧ kcnt (splA m s i l) (kn s.d) + i / m = kcnt l (kn s.d) + (i + l.length) / m
  | [], i => by simp [splA]
  | x :: l, i => by
    obtain ⟨h1, h2⟩ := splA_cnt m s hm l (i + 1)
    have hd := div_succ i m hm
    rw [show i + 1 + l.length = i + (l.length + 1) by omega] at h1 h2
    unfold kcnt at h2 ⊢
    simp only [splA, List.length_cons]
    by_cases e : (i + 1) % m = 0
    · rw [if_pos e] at hd ⊢
      simp only [List.length_cons, List.countP_cons, beq_self_eq_true, if_true]
      omega
    · rw [if_neg e] at hd ⊢
      simp only [List.length_cons, List.countP_cons]
      omega
theorem spl_length (m : Nat) (s : St) (l : List St) : (spl m s l).length = l.length + l.length / m := by
  rcases Nat.eq_zero_or_pos m with h | h
  · subst h; rw [spl_zero, Nat.div_zero]; rfl
  · have := (splA_cnt m s h l 0).1
    rw [Nat.zero_div, Nat.zero_add] at this
    exact this
theorem spl_kcnt (m : Nat) (of : Int) (l : List St) : kcnt (spl m ⟨7, 0, of⟩ l) 7 = kcnt l 7 + l.length / m := by
  rcases Nat.eq_zero_or_pos m with h | h
  · subst h; rw [spl_zero, Nat.div_zero]; rfl
  · have := (splA_cnt m ⟨7, 0, of⟩ h l 0).2
    rw [Nat.zero_div, Nat.zero_add] at this
    exact this
theorem mem_splA (m : Nat) (s : St) : ∀ (l : List St) (i : Nat) (x : St), x ∈ splA m s i l → x = s ∨ x ∈ l
  | [], i, x, h => by simp [splA] at h
  | y :: l, i, x, h => by
    have ih := mem_splA m s l (i + 1) x
    simp only [splA] at h
    split at h
    · rcases List.mem_cons.1 h with h | h
      · exact .inr (h ▸ List.mem_cons_self)
      · rcases List.mem_cons.1 h with h | h
        · exact .inl h
        · exact (ih h).imp id (List.mem_cons_of_mem _)
    · rcases List.mem_cons.1 h with h | h
      · exact .inr (h ▸ List.mem_cons_self)
      · exact (ih h).imp id (List.mem_cons_of_mem _)
theorem spl_wf {m : Nat} {of : Int} {l : List St} (hof : Wf of) (h : ∀ s ∈ l, StWf s) : ∀ s ∈ spl m ⟨7, 0, of⟩ l, StWf s := fun s hs => by
  rcases mem_splA m _ l 0 s hs with rfl | hs
  · exact ⟨⟨by show _ ≤ (7 : Int); omega, by show (7 : Int) ≤ _; omega⟩, zero_wf, hof⟩
  · exact h s hs
end Go.Proofs.Ytejoiamdhjhjhaa
