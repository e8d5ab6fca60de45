/- Plain: a number put into its place among rising ones; lists of numbers that rise; a list that is a permutation. -/
import Derived.Test.YtejoiamdhjhjhaaRefActors
namespace Go.Proofs.Ytejoiamdhjhjhaa

def ins (o : List Int) (a : Nat) (x : Int) : List Int := o.take a ++ [x] ++ o.drop a
theorem ins_rise {o : List Int} {a : Nat} {x : Int} (hs : o.Pairwise (· < ·)) (h1 : ∀ j y, a ≤ j → o[j]? = some y → x < y) (h2 : ∀ j y, j < a → o[j]? = some y → y < x) : (ins o a x).Pairwise (· < ·) := by
  have t1 : ∀ u ∈ o.take a, u < x := fun u hu => by
    obtain ⟨j, hj⟩ := List.getElem?_of_mem hu
    rw [List.getElem?_take] at hj
    split at hj
    · exact h2 j u (by assumption) hj
    · cases hj
  have t2 : ∀ u ∈ o.drop a, x < u := fun u hu => by
    obtain ⟨j, hj⟩ := List.getElem?_of_mem hu
    rw [List.getElem?_drop] at hj
    exact h1 (a + j) u (by omega) hj
  unfold ins
  rw [List.append_assoc, List.pairwise_append]
  refine ⟨hs.sublist (List.take_sublist _ _), ?_, ?_⟩
  · rw [List.singleton_append, List.pairwise_cons]
    exact ⟨t2, hs.sublist (List.drop_sublist _ _)⟩
  · intro u hu v hv
    rw [List.singleton_append] at hv
    have hux := t1 u hu
    rcases List.mem_cons.1 hv with rfl | hv
    · exact hux
    · have := t2 v hv; omega
theorem mem_ins (o : List Int) (a : Nat) (x y : Int) : y ∈ ins o a x ↔ y ∈ o ∨ y = x := by
  unfold ins
  have : y ∈ o ↔ y ∈ o.take a ∨ y ∈ o.drop a := by
    conv => lhs; rw [← List.take_append_drop a o]
    exact List.mem_append
  rw [this]
  simp only [List.mem_append, List.mem_singleton]
  constructor
  · rintro ((h | h) | h)
    · exact .inl (.inl h)
    · exact .inr h
    · exact .inl (.inr h)
  · rintro ((h | h) | h)
    · exact .inl (.inl h)
    · exact .inr h
    · exact .inl (.inr h)
theorem ins_len (o : List Int) (a : Nat) (x : Int) : (ins o a x).length = o.length + 1 := by
  unfold ins; simp; omega
theorem rise_lt {o : List Int} (hs : o.Pairwise (· < ·)) {i j : Nat} {u v : Int} (hi : o[i]? = some u) (hj : o[j]? = some v) (hij : i < j) : u < v := by
  obtain ⟨h1, e1⟩ := List.getElem?_eq_some_iff.1 hi
  obtain ⟨h2, e2⟩ := List.getElem?_eq_some_iff.1 hj
  rw [← e1, ← e2]
  exact List.pairwise_iff_getElem.1 hs i j h1 h2 hij
/-- rising lists of the same numbers are the same -/
theorem rise_eq : ∀ (a b : List Int), a.Pairwise (· < ·) → b.Pairwise (· < ·) → (∀ y, y ∈ a ↔ y ∈ b) → a = b
  | [], b, _, _, h => by
    cases b with
    | nil => rfl
    | cons x r => have := (h x).2 List.mem_cons_self; cases this
  | x :: r, [], _, _, h => by have := (h x).1 List.mem_cons_self; cases this
  | x :: r, y :: s, ha, hb, h => by
    have ha' := List.pairwise_cons.1 ha
    have hb' := List.pairwise_cons.1 hb
    have e : x = y := by
      rcases List.mem_cons.1 ((h x).1 List.mem_cons_self) with e | e
      · exact e
      · rcases List.mem_cons.1 ((h y).2 List.mem_cons_self) with q | q
        · exact q.symm
        · have h1 := ha'.1 y q; have h2 := hb'.1 x e; omega
    subst e
    congr 1
    refine rise_eq r s ha'.2 hb'.2 fun z => ?_
    constructor
    · intro hz
      rcases List.mem_cons.1 ((h z).1 (List.mem_cons_of_mem _ hz)) with e | e
      · subst e; have := ha'.1 z hz; omega
      · exact e
    · intro hz
      rcases List.mem_cons.1 ((h z).2 (List.mem_cons_of_mem _ hz)) with e | e
      · subst e; have := hb'.1 z hz; omega
      · exact e
/-- what Rising gives -/
def RiseOf (p r : List Int) : Prop := r.Pairwise (· < ·) ∧ ∀ y, y ∈ r ↔ y ∈ p
theorem upto_rise (n : Nat) : (rgi n (fun j => (j : Int))).Pairwise (· < ·) := by
  unfold rgi
  refine List.pairwise_map.2 (List.pairwise_lt_range.imp ?_)
  intro a b h; omega
theorem upto_mem (n : Nat) (x : Int) : x ∈ rgi n (fun j => (j : Int)) ↔ 0 ≤ x ∧ x < (n : Int) := by
  unfold rgi
  rw [List.mem_map]
  constructor
  · rintro ⟨j, hj, rfl⟩
    have := List.mem_range.1 hj
    exact ⟨by omega, by omega⟩
  · intro h
    exact ⟨x.toNat, List.mem_range.2 (by omega), by omega⟩
theorem rise_isP {p r : List Int} (hr : RiseOf p r) (hp : IsP p) : r = rgi p.length (fun j => (j : Int)) := by
  refine rise_eq _ _ hr.1 (upto_rise _) fun y => ?_
  rw [hr.2, upto_mem]
  constructor
  · exact fun h => hp.1 y h
  · intro h
    have := isp_all hp y.toNat (by omega)
    rwa [show ((y.toNat : Nat) : Int) = y by omega] at this
theorem sub_len : ∀ (a b : List Int), a.Nodup → (∀ x ∈ a, x ∈ b) → a.length ≤ b.length
  | [], b, _, _ => by simp
  | x :: r, b, hn, h => by
    have hn' := List.nodup_cons.1 hn
    have hx := h x List.mem_cons_self
    have := sub_len r (b.erase x) hn'.2 (fun y hy => (List.mem_erase_of_ne (fun (e : y = x) => hn'.1 (e ▸ hy))).2 (h y (List.mem_cons_of_mem _ hy)))
    rw [List.length_erase_of_mem hx] at this
    have hb := List.length_pos_of_mem hx
    simp only [List.length_cons]; omega
theorem cover_nodup : ∀ (p a : List Int), a.Nodup → (∀ x ∈ a, x ∈ p) → p.length ≤ a.length → p.Nodup
  | [], _, _, _, _ => List.nodup_nil
  | x :: r, a, hn, h, hl => by
    have hx : x ∉ r := fun hx => by
      have := sub_len a r hn (fun y hy => by
        rcases List.mem_cons.1 (h y hy) with e | e
        · exact e ▸ hx
        · exact e)
      simp only [List.length_cons] at hl; omega
    refine List.nodup_cons.2 ⟨hx, cover_nodup r (a.erase x) (hn.erase _) (fun y hy => ?_) ?_⟩
    · have h1 := (hn.mem_erase_iff).1 hy
      rcases List.mem_cons.1 (h y h1.2) with e | e
      · exact absurd e h1.1
      · exact e
    · have := List.length_erase (a := x) (l := a)
      simp only [List.length_cons] at hl
      split at this <;> omega
theorem isP_of {p : List Int} {n : Nat} (hr : RiseOf p (rgi n (fun j => (j : Int)))) (hn : n = p.length) : IsP p := by
  subst hn
  refine ⟨fun x hx => (upto_mem _ x).1 ((hr.2 x).2 hx), ?_⟩
  refine cover_nodup p _ ((upto_rise p.length).imp (fun h e => by omega)) (fun x hx => (hr.2 x).1 hx) ?_
  rw [rgi_len]; exact Nat.le_refl _
end Go.Proofs.Ytejoiamdhjhjhaa
