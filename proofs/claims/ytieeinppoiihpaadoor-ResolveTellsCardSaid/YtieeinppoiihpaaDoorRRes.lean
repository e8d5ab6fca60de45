/- Plain: what stands in a resolution: no node twice, none blank, and of each member just one that it holds. -/
import Derived.Test.YtieeinppoiihpaaDoorRMine
namespace Go.Proofs.YtieeinppoiihpaaDoor
open Go.RowKit

theorem chk_kinds {t : List TN} (h : ChkT t) {x : Nat} {s : TN} (hs : t[x]? = some s) (hk : s.k ≠ 0) : (x % 2 = 0 ∧ LeafT s) ∨ (x % 2 = 1 ∧ ParT t x s) := by
  rcases h.2.2.2 x s hs with ⟨q, _⟩ | ⟨_, q⟩ | ⟨_, q⟩
  · exact absurd q hk
  · exact .inl q
  · exact .inr q
theorem at_of_kd {t : List TN} {x : Nat} (h : kd t x ≠ 0) : ∃ s, t[x]? = some s ∧ s.k = kd t x ∧ s.un = und t x := by
  unfold kd und at *
  cases e : t[x]? with
  | none => rw [e] at h; exact absurd rfl h
  | some s => exact ⟨s, rfl, rfl, rfl⟩
/-- what stands in a resolution -/
def InRes (t : List TN) (x : Nat) (y : Int) : Prop := ∃ z : Nat, y = (z : Int) ∧ z < t.length ∧ kd t z ≠ 0 ∧ UnderN z x
theorem InRes.up {t : List TN} {x x' : Nat} {y : Int} (h : InRes t x y) (hu : UnderN x x') : InRes t x' y := by
  obtain ⟨z, h1, h2, h3, h4⟩ := h
  exact ⟨z, h1, h2, h3, h4.trans hu⟩
theorem pres_of_und {t : List TN} (h : ChkT t) {x : Nat} {i : Int} (hi : i ∈ und t x) (hk : kd t x ≠ 0) : x % 2 = 1 ∧ UnT t x i := by
  obtain ⟨s, hs, hsk, hsu⟩ := at_of_kd hk
  rw [← hsu] at hi
  rcases chk_kinds h hs (by rw [hsk]; exact hk) with ⟨_, q⟩ | ⟨e, q⟩
  · rw [q.2] at hi; simp at hi
  · exact ⟨e, q.2.2.2.2.2 i hi⟩
theorem pres_nat {t : List TN} (h : ChkT t) {i : Int} (hi : Pres t i) : ∃ j : Nat, i = j ∧ j < lvs t ∧ j < 256 ∧ 2 * j < t.length ∧ kd t (2 * j) = 1 := by
  obtain ⟨j, rfl⟩ : ∃ j : Nat, i = j := ⟨i.toNat, by have := hi.1; omega⟩
  have hs := size_le h.1
  have hj : j < lvs t := by have := hi.2.1; omega
  have hl := h.2.1
  have hp := hi.2.2
  rw [Int.toNat_natCast] at hp
  exact ⟨j, rfl, hj, by omega, by omega, hp⟩
theorem self_in {t : List TN} (h : ChkT t) {x : Nat} (hk : kd t x ≠ 0) : ∀ y ∈ selfL t x, InRes t x y := by
  intro y hy
  unfold selfL at hy
  have hlt : x < t.length := by obtain ⟨s, hs, _⟩ := at_of_kd hk; exact (List.getElem?_eq_some_iff.1 hs).1
  rcases List.mem_cons.1 hy with rfl | hy
  · exact ⟨x, rfl, hlt, hk, UnderN.refl x⟩
  · obtain ⟨i, hi, rfl⟩ := List.mem_map.1 hy
    obtain ⟨_, q⟩ := pres_of_und h hi hk
    obtain ⟨j, rfl, hj, hj2, hjl, hp⟩ := pres_nat h q.2.2.1
    obtain ⟨f1, f2, f3⟩ := leaf_fact hj2
    have q1 := q.1; have q2 := q.2.1
    exact ⟨2 * j, by simp, hjl, by rw [hp]; decide, by rw [f1]; omega, by rw [f2]; omega, by rw [f3]; omega⟩
theorem kid_under {x : Nat} (h : x < 511) (h1 : x % 2 = 1) (hl : leftN x < 511) (hr : rightN x < 511) : UnderN (leftN x) x ∧ UnderN (rightN x) x := by
  obtain ⟨k1, k2, k3, k4, k5⟩ := kid_fact h h1
  have a := lo_hi hl; have b := lo_hi hr
  exact ⟨⟨by omega, by omega, by omega⟩, ⟨by omega, by omega, by omega⟩⟩
theorem res_in {t : List TN} (h : ChkT t) : ∀ (k x : Nat), Ins x (lvs t) → lev x = k → ∀ y ∈ resL t k x, InRes t x y
  | 0, x, hI, hl, y, hy => by
    by_cases hk : kd t x = 0
    · rw [resL, if_pos hk] at hy; simp at hy
    · rw [res_self hk] at hy; exact self_in h hk y hy
  | k + 1, x, hI, hl, y, hy => by
    by_cases hk : kd t x = 0
    · rw [res_kids hk] at hy
      have ho : x % 2 = 1 := by have := (lev_odd hI.lt).2; omega
      obtain ⟨k1, k2, k3, k4⟩ := kids hI ho
      obtain ⟨u1, u2⟩ := kid_under hI.lt ho k1.lt k3.lt
      rcases List.mem_append.1 hy with hy | hy
      · exact (res_in h k _ k1 (by omega) y hy).up u1
      · exact (res_in h k _ k3 (by omega) y hy).up u2
    · rw [res_self hk] at hy; exact self_in h hk y hy
theorem rise_nodup : ∀ {l : List Int}, Up l → NA l → l.Nodup
  | [], _, _ => List.nodup_nil
  | a :: r, h1, h2 => by
    have h1' : Up r := fun i x y hx hy => h1 (i + 1) x y (by simpa using hx) (by simpa using hy)
    have h2' : NA r := fun i x y hx hy => h2 (i + 1) x y (by simpa using hx) (by simpa using hy)
    have key : ∀ (r : List Int) (a : Int), Up (a :: r) → NA (a :: r) → ∀ y ∈ r, a < y := by
      intro r
      induction r with
      | nil => intro a _ _ y hy; simp at hy
      | cons b r ih =>
        intro a q1 q2 y hy
        have e1 := q1 0 a b rfl rfl
        have e2 := q2 0 a b rfl rfl
        have hab : a < b := by omega
        rcases List.mem_cons.1 hy with rfl | hy
        · exact hab
        · have := ih b (fun i x y hx hy => q1 (i + 1) x y (by simpa using hx) (by simpa using hy)) (fun i x y hx hy => q2 (i + 1) x y (by simpa using hx) (by simpa using hy)) y hy
          omega
    exact List.nodup_cons.2 ⟨fun hm => by have := key r a h1 h2 a hm; omega, rise_nodup h1' h2'⟩
theorem und_nodup {t : List TN} (h : ChkT t) {x : Nat} (hk : kd t x ≠ 0) : (und t x).Nodup := by
  obtain ⟨s, hs, hsk, hsu⟩ := at_of_kd hk
  rw [← hsu]
  rcases chk_kinds h hs (by rw [hsk]; exact hk) with ⟨_, q⟩ | ⟨e, q⟩
  · rw [q.2]; exact List.nodup_nil
  · exact rise_nodup q.2.2.2.1 q.2.2.2.2.1
theorem self_nodup {t : List TN} (h : ChkT t) {x : Nat} (hk : kd t x ≠ 0) : (selfL t x).Nodup := by
  unfold selfL
  refine List.nodup_cons.2 ⟨fun hm => ?_, ?_⟩
  · obtain ⟨i, hi, e⟩ := List.mem_map.1 hm
    have := (pres_of_und h hi hk).1
    omega
  · have hn := und_nodup h hk
    rw [List.Nodup, List.pairwise_map]
    exact hn.imp fun {a b} q e => q (by omega)
theorem res_nodup {t : List TN} (h : ChkT t) : ∀ (k x : Nat), Ins x (lvs t) → lev x = k → (resL t k x).Nodup
  | 0, x, hI, hl => by
    by_cases hk : kd t x = 0
    · rw [resL, if_pos hk]; exact List.nodup_nil
    · rw [res_self hk]; exact self_nodup h hk
  | k + 1, x, hI, hl => by
    by_cases hk : kd t x = 0
    · rw [res_kids hk]
      have ho : x % 2 = 1 := by have := (lev_odd hI.lt).2; omega
      obtain ⟨k1, k2, k3, k4⟩ := kids hI ho
      obtain ⟨f1, f2, f3, f4, f5⟩ := kid_fact hI.lt ho
      refine List.nodup_append.2 ⟨res_nodup h k _ k1 (by omega), res_nodup h k _ k3 (by omega), ?_⟩
      intro a ha b hb e
      subst e
      obtain ⟨z, e1, z2, z3, z4⟩ := res_in h k _ k1 (by omega) a ha
      obtain ⟨z', e1', z2', z3', z4'⟩ := res_in h k _ k3 (by omega) a hb
      obtain rfl : z = z' := by omega
      have hz : z < 511 := by have := size_le h.1; have := h.2.1; omega
      have := lo_hi hz
      have a1 := z4.2.1; have a2 := z4'.1
      omega
    · rw [res_self hk]; exact self_nodup h hk
/-- how many of a list a member holds -/
def holdN (t : List TN) (i : Nat) (l : List Int) : Nat := l.countP fun y => decide (HoldT t i y.toNat)
theorem under_leaf {i x : Nat} (h : i < 256) : UnderN (2 * i) x ↔ loN x ≤ i ∧ i < hiN x := by
  obtain ⟨f1, f2, f3⟩ := leaf_fact h
  unfold UnderN
  rw [f1, f2, f3]
  exact ⟨fun q => ⟨q.1, q.2.1⟩, fun q => ⟨q.1, q.2, Nat.zero_le _⟩⟩
theorem leaf_und {t : List TN} (h : ChkT t) {j : Nat} (hk : kd t (2 * j) = 1) : und t (2 * j) = [] := by
  have hk0 : kd t (2 * j) ≠ 0 := by rw [hk]; decide
  obtain ⟨s, hs, hsk, hsu⟩ := at_of_kd hk0
  rcases chk_kinds h hs (by rw [hsk]; exact hk0) with ⟨_, q⟩ | ⟨e, q⟩
  · rw [← hsu]; exact q.2
  · omega
theorem count_one : ∀ {l : List Int} {a : Int}, l.Nodup → a ∈ l → l.count a = 1
  | b :: r, a, h, hm => by
    obtain ⟨h1, h2⟩ := List.nodup_cons.1 h
    by_cases e : b = a
    · subst e
      rw [List.count_cons_self, List.count_eq_zero_of_not_mem h1]
    · rw [List.count_cons_of_ne e]
      exact count_one h2 (by rcases List.mem_cons.1 hm with q | q; exact absurd q.symm e; exact q)
theorem self_count {t : List TN} (h : ChkT t) {i : Nat} (hi : Pres t (i : Int)) {x : Nat} (hk : kd t x ≠ 0) : holdN t i (selfL t x) = if UnderN (2 * i) x then 1 else 0 := by
  obtain ⟨i', e, hi1, hi2, hi3, hi4⟩ := pres_nat h hi
  obtain rfl : i = i' := by omega
  have hu := und_nodup h hk
  have hcnt : ((und t x).map (2 * ·)).countP (fun y => decide (HoldT t i y.toNat)) = (und t x).count (i : Int) := by
    rw [List.countP_map]
    unfold List.count
    refine List.countP_congr fun j hj => ?_
    obtain ⟨_, q⟩ := pres_of_und h hj hk
    obtain ⟨j', rfl, j1, j2, j3, j4⟩ := pres_nat h q.2.2.1
    obtain ⟨f1, f2, f3⟩ := leaf_fact j2
    have e2 : (2 * (j' : Int)).toNat = 2 * j' := by omega
    simp only [Function.comp_apply, e2, decide_eq_true_iff, beq_iff_eq]
    unfold HoldT
    rw [f1, f2, leaf_und h j4, j4, hi4]
    constructor
    · rintro ⟨_, _, a, b, _⟩; omega
    · intro e3
      obtain rfl : j' = i := by omega
      exact ⟨rfl, by decide, Nat.le_refl _, by omega, by simp⟩
  unfold holdN selfL
  rw [List.countP_cons, hcnt, Int.toNat_natCast]
  by_cases hm : (i : Int) ∈ und t x
  · obtain ⟨_, q⟩ := pres_of_und h hm hk
    have hUn : UnderN (2 * i) x := (under_leaf hi2).2 ⟨by have := q.1; omega, by have := q.2.1; omega⟩
    have hno : ¬ HoldT t i x := fun q => q.2.2.2.2 hm
    rw [if_pos hUn, if_neg (by simpa using hno), Nat.add_zero]
    exact count_one hu hm
  · rw [List.count_eq_zero_of_not_mem hm, Nat.zero_add]
    by_cases hun : UnderN (2 * i) x
    · obtain ⟨a, b⟩ := (under_leaf hi2).1 hun
      rw [if_pos hun, if_pos (by rw [decide_eq_true_iff]; exact ⟨hi4, hk, a, b, hm⟩)]
    · rw [if_neg hun, if_neg]
      rw [decide_eq_true_iff]
      exact fun q => hun ((under_leaf hi2).2 ⟨q.2.2.1, q.2.2.2.1⟩)
theorem res_count {t : List TN} (h : ChkT t) {i : Nat} (hi : Pres t (i : Int)) : ∀ (k x : Nat), Ins x (lvs t) → lev x = k → holdN t i (resL t k x) = if UnderN (2 * i) x then 1 else 0
  | 0, x, hI, hl => by
    by_cases hk : kd t x = 0
    · obtain ⟨i', e, hi1, hi2, hi3, hi4⟩ := pres_nat h hi
      obtain rfl : i = i' := by omega
      rw [resL, if_pos hk, if_neg]
      · rfl
      · intro hu
        have he := (lev_odd hI.lt).1 hl
        obtain ⟨j, rfl⟩ : ∃ j, x = 2 * j := ⟨x / 2, by omega⟩
        have hj : j < 256 := by have := hI.lt; omega
        obtain ⟨f1, f2, f3⟩ := leaf_fact hj
        obtain ⟨a, b⟩ := (under_leaf hi2).1 hu
        rw [f1] at a; rw [f2] at b
        obtain rfl : i = j := by omega
        rw [hi4] at hk; simp at hk
    · rw [res_self hk]; exact self_count h hi hk
  | k + 1, x, hI, hl => by
    by_cases hk : kd t x = 0
    · obtain ⟨i', e, hi1, hi2, hi3, hi4⟩ := pres_nat h hi
      obtain rfl : i = i' := by omega
      have ho : x % 2 = 1 := by have := (lev_odd hI.lt).2; omega
      obtain ⟨k1, k2, k3, k4⟩ := kids hI ho
      obtain ⟨f1, f2, f3, f4, f5⟩ := kid_fact hI.lt ho
      have c1 := res_count h hi k _ k1 (by omega)
      have c2 := res_count h hi k _ k3 (by omega)
      rw [res_kids hk]
      unfold holdN at *
      rw [List.countP_append, c1, c2]
      have l1 := lo_hi k1.lt; have l2 := lo_hi k3.lt
      simp only [under_leaf hi2]
      split <;> split <;> split <;> omega
    · rw [res_self hk]; exact self_count h hi hk
end Go.Proofs.YtieeinppoiihpaaDoor
