/- Plain: what stands above a leaf, and under a node: along its path; so the reference's way to look at a parent's leaves is the program's. -/
import Derived.Test.YtieeinppoiihpaaDoorR7
namespace Go.Proofs.YtieeinppoiihpaaDoor
open Go.RowKit

def small : List Nat := [1, 2, 4, 8, 16, 32, 64]
theorem chkA1 : (small.all fun N => (List.range N).all fun j => (List.range (2 * N - 1)).all fun z => z % 2 == 0 || !(decide (loN z ≤ j) && decide (j < hiN z)) || (pathL (2 * j) N).contains z) = true := by kernel_rfl
theorem chkB1 : (small.all fun N => (List.range N).all fun j => (pathL (2 * j) N).all fun x => (pathL (2 * j) N).all fun z => z == x || !(decide (UnderN z x)) || (ahead x (pathL (2 * j) N)).contains z) = true := by kernel_rfl
theorem chkC1 : (small.all fun N => (List.range N).all fun j => (pathL (2 * j) N).all fun x => (ahead x (pathL (2 * j) N)).all fun z => !(z == x) && decide (UnderN z x) && decide (loN z ≤ j) && decide (j < hiN z) && z % 2 == 1 && decide (z + 1 < 2 * N)) = true := by kernel_rfl
theorem chkD1 : (small.all fun N => (List.range (2 * N - 1)).all fun x => decide (hiN x ≤ N)) = true := by kernel_rfl
theorem small_sizes {N : Nat} (h : N ∈ small) : N ∈ sizes := by
  simp [small] at h; simp [sizes]; omega
theorem hi_le {N x : Nat} (h : N ∈ small) (hx : x + 1 < 2 * N) : hiN x ≤ N := by
  simpa using List.all_eq_true.1 (List.all_eq_true.1 chkD1 N h) x (List.mem_range.2 (by omega))
theorem on_path {N j z : Nat} (h : N ∈ small) (hj : j < N) (hz : z + 1 < 2 * N) (ho : z % 2 = 1) (h1 : loN z ≤ j) (h2 : j < hiN z) : z ∈ pathL (2 * j) N := by
  have := List.all_eq_true.1 (List.all_eq_true.1 (List.all_eq_true.1 chkA1 N h) j (List.mem_range.2 hj)) z (List.mem_range.2 (by omega))
  simpa [ho, h1, h2] using this
theorem in_ahead {N j x z : Nat} (h : N ∈ small) (hj : j < N) (hx : x ∈ pathL (2 * j) N) (hz : z ∈ pathL (2 * j) N) (hne : z ≠ x) (hu : UnderN z x) : z ∈ ahead x (pathL (2 * j) N) := by
  have := List.all_eq_true.1 (List.all_eq_true.1 (List.all_eq_true.1 (List.all_eq_true.1 chkB1 N h) j (List.mem_range.2 hj)) x hx) z hz
  simpa [hne, hu] using this
theorem of_ahead {N j x z : Nat} (h : N ∈ small) (hj : j < N) (hx : x ∈ pathL (2 * j) N) (hz : z ∈ ahead x (pathL (2 * j) N)) : z ≠ x ∧ UnderN z x ∧ loN z ≤ j ∧ j < hiN z ∧ z % 2 = 1 ∧ z + 1 < 2 * N := by
  have := List.all_eq_true.1 (List.all_eq_true.1 (List.all_eq_true.1 (List.all_eq_true.1 chkC1 N h) j (List.mem_range.2 hj)) x hx) z hz
  simp only [Bool.and_eq_true, Bool.not_eq_true', beq_eq_false_iff_ne, decide_eq_true_iff, beq_iff_eq] at this
  exact ⟨this.1.1.1.1.1, this.1.1.1.1.2, this.1.1.1.2, this.1.1.2, this.1.2, this.2⟩
/-- a leaf's number may stand among a node's: the reference's way to say it -/
def Un7 (t : List TN) (x : Nat) (i : Int) : Prop :=
  (loN x : Int) ≤ i ∧ i < (hiN x : Int) ∧ Pres t i ∧ ∀ (z : Nat) (o : TN), t[z]? = some o → o.k = 2 → z ≠ x → UnderN (2 * i.toNat) z → UnderN z x → i ∈ o.un
theorem un7_iff {t : List TN} (hN : lvs t ∈ small) (hl : t.length + 1 = 2 * lvs t) {x : Nat} (ho : x % 2 = 1) (hx : x < t.length) (i : Int) : Un7 t x i ↔ UnT t x i := by
  unfold Un7 UnT
  constructor
  · rintro ⟨h1, h2, h3, h4⟩
    refine ⟨h1, h2, h3, fun y hy hk => ?_⟩
    obtain ⟨j, rfl⟩ : ∃ j : Nat, i = j := ⟨i.toNat, by have := h3.1; omega⟩
    have hj : j < lvs t := by have := h3.2.1; omega
    have hj256 : j < 256 := by have := size_le (small_sizes hN); omega
    rw [Int.toNat_natCast] at hy h4
    have hxp := on_path hN hj (by omega : x + 1 < 2 * lvs t) ho (by omega) (by omega)
    obtain ⟨a, b, c, d, e, f⟩ := of_ahead hN hj hxp hy
    obtain ⟨s, hs, hsk, hsu⟩ := at_of_kd (t := t) (x := y) (by rw [hk]; decide)
    rw [← hsu]
    exact h4 y s hs (by rw [hsk, hk]) a ((under_leaf hj256).2 ⟨c, d⟩) b
  · rintro ⟨h1, h2, h3, h4⟩
    refine ⟨h1, h2, h3, fun z o hz hk hne hu hzx => ?_⟩
    obtain ⟨j, rfl⟩ : ∃ j : Nat, i = j := ⟨i.toNat, by have := h3.1; omega⟩
    have hj : j < lvs t := by have := h3.2.1; omega
    have hj256 : j < 256 := by have := size_le (small_sizes hN); omega
    have hp := h3.2.2
    rw [Int.toNat_natCast] at hu h4 hp
    have hxp := on_path hN hj (by omega : x + 1 < 2 * lvs t) ho (by omega) (by omega)
    obtain ⟨c, d⟩ := (under_leaf hj256).1 hu
    have hzl : z < t.length := (List.getElem?_eq_some_iff.1 hz).1
    by_cases hzo : z % 2 = 1
    · have hzp := on_path hN hj (by omega : z + 1 < 2 * lvs t) hzo c d
      have := h4 z (in_ahead hN hj hxp hzp hne hzx) (by rw [kd_at hz, hk])
      rwa [und_at hz] at this
    · exfalso
      obtain ⟨q, rfl⟩ : ∃ q, z = 2 * q := ⟨z / 2, by omega⟩
      have hs := size_le (small_sizes hN)
      obtain ⟨f1, f2, _⟩ := leaf_fact (i := q) (by omega)
      rw [f1] at c; rw [f2] at d
      obtain rfl : q = j := by omega
      rw [kd_at hz, hk] at hp
      exact absurd hp (by decide)
def Rise (l : List Int) : Prop := ∀ (i : Nat) (a b : Int), l[i]? = some a → l[i + 1]? = some b → a < b
theorem rise_iff (l : List Int) : Rise l ↔ Up l ∧ NA l :=
  ⟨fun h => ⟨fun i a b h1 h2 => by have := h i a b h1 h2; omega, fun i a b h1 h2 e => by have := h i a b h1 h2; omega⟩, fun ⟨h1, h2⟩ i a b q1 q2 => by have := h1 i a b q1 q2; have := h2 i a b q1 q2; omega⟩
def Par7 (t : List TN) (x : Nat) (s : TN) : Prop := s.k = 2 ∧ s.id = 0 ∧ s.sig = 0 ∧ Rise s.un ∧ ∀ i ∈ s.un, Un7 t x i
theorem par7_iff {t : List TN} (hN : lvs t ∈ small) (hl : t.length + 1 = 2 * lvs t) {x : Nat} (ho : x % 2 = 1) (hx : x < t.length) (s : TN) : Par7 t x s ↔ ParT t x s := by
  unfold Par7 ParT
  rw [rise_iff]
  constructor
  · rintro ⟨a, b, c, ⟨d, e⟩, f⟩
    exact ⟨a, b, c, d, e, fun i hi => (un7_iff hN hl ho hx i).1 (f i hi)⟩
  · rintro ⟨a, b, c, d, e, f⟩
    exact ⟨a, b, c, ⟨d, e⟩, fun i hi => (un7_iff hN hl ho hx i).2 (f i hi)⟩
theorem small_of {N n : Nat} (h : N ∈ sizes) (hn : n + 1 = 2 * N) (h140 : n ≤ 140) : N ∈ small := by
  simp [sizes] at h; simp [small]; omega
end Go.Proofs.YtieeinppoiihpaaDoor
