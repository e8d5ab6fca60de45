/- What the laws of the chapter share: the boxes of the parameters, brought into the arena's range. -/
import Derived.Test.YthbfaledmoobjaaDoorReadsWalk
namespace Go.Proofs.YthbfaledmoobjaaDoor
open Go.RowKit

/-- a number brought into the range of the terms -/
def nf (m x : Int) : Int := x.tmod m % m
theorem tmod_lt {m x : Int} (hm : 0 < m) : -m < x.tmod m ∧ x.tmod m < m := by
  refine ⟨?_, Int.tmod_lt_of_pos x hm⟩
  have := Int.lt_tmod_of_pos x hm
  omega
theorem nf_range {m : Int} (hm : 0 < m) (x : Int) : 0 ≤ nf m x ∧ nf m x < m :=
  ⟨Int.emod_nonneg _ (by omega), Int.emod_lt_of_pos _ hm⟩
theorem nf_has {ns : List NN} (h : 0 < ns.length) (x : Int) : hasF ns (nf (ns.length : Int) x) = true := by
  have := nf_range (m := (ns.length : Int)) (by omega) x
  unfold hasF
  rw [decide_eq_true this.1, decide_eq_true this.2]; rfl
theorem nf_w64 {ns : List NN} (h : 0 < ns.length) (hl : ns.length ≤ 605) (x : Int) : W64 (nf (ns.length : Int) x) := by
  have := nf_range (m := (ns.length : Int)) (by omega) x
  unfold W64; omega
/-- numbers in boxes, side by side -/
def Boxes (w : World) (p : Nat) (vs : List Int) : Prop := ∀ (j : Nat) (v : Int), vs[j]? = some v → w.heap[p + j]? = some (Obj.cells #[.int .i64 v] 3 (0, 0))
theorem Boxes.cell {w : World} {p : Nat} {vs : List Int} (h : Boxes w p vs) {j : Nat} {v : Int} (hj : vs[j]? = some v) : w.cell? ⟨p + j, 0, none⟩ = some (.int .i64 v) := cell_of (h j v hj) 0
theorem Boxes.frz {w : World} {p : Nat} {vs : List Int} (h : Boxes w p vs) {j : Nat} {v : Int} (hj : vs[j]? = some v) : w.frozen? ⟨p + j, 0, none⟩ = false := frz_of (h j v hj) 0
theorem Boxes.below {w w' : World} {p B : Nat} {vs : List Int} (h : Boxes w p vs) (hb : Below B w w') (hB : p + vs.length ≤ B) : Boxes w' p vs := fun j v hj => by
  have := (List.getElem?_eq_some_iff.1 hj).1
  rw [hb.block (p + j) (by omega)]; exact h j v hj
theorem Boxes.set {w : World} {p : Nat} {vs : List Int} (h : Boxes w p vs) {j : Nat} (hj : j < vs.length) (u : Int) : Boxes (w.setCell ⟨p + j, 0, none⟩ (.int .i64 u)) p (vs.set j u) := by
  intro i v hi
  by_cases e : i = j
  · subst e
    rw [List.getElem?_set_self hj] at hi
    injection hi with hi
    subst hi
    have := heap_setCell_same w (p + i) 0 _ 3 (.int .i64 u) (h i _ (List.getElem?_eq_getElem hj))
    exact this
  · rw [List.getElem?_set_ne (fun q => e q.symm)] at hi
    rw [heap_setCell_other _ _ _ _ (show p + i ≠ p + j by omega)]
    exact h i v hi
theorem sl_setb {w : World} {base : Nat} {A : Option Addr} {n c : Nat} {l : List Int} (h : Sl w A n c (iv l)) (hn : NumsB base w A l) {a : Addr} (ha : a.block < base) (v : Value) : Sl (w.setCell a v) A n c (iv l) ∧ NumsB base (w.setCell a v) A l := by
  have keep : ∀ (k : Nat), base ≤ k → (w.setCell a v).heap[k]? = w.heap[k]? := fun k hk => heap_setCell_other _ _ _ _ (by omega)
  refine ⟨⟨h.len, h.cap, h.top, ?_⟩, ?_, hn.2⟩
  · rcases hn.2 with e | hb
    · left; rw [e]; rfl
    · rcases h.lies with e | ⟨ad, e, hc⟩
      · exact .inl e
      · refine .inr ⟨ad, e, fun j v hv => ?_⟩
        rw [← hc j v hv]
        apply World.cell?_of_block
        rw [blk_add]
        exact keep _ (hb ad e)
  · rcases hn.1 with e | ⟨ad, cur, fz, e, hh⟩
    · exact .inl e
    · rcases hn.2 with q | hb
      · exact .inl q
      · exact .inr ⟨ad, cur, fz, e, (keep _ (hb ad e)).trans hh⟩
/-- an arena, while a cell below all of it is written -/
theorem AR.setb {w : World} {base b : Nat} {ns : List NN} (h : AR w base b ns) {a : Addr} (ha : a.block < base) (v : Value) : AR (w.setCell a v) base b ns := by
  obtain ⟨A, c, M, k, xs, F, g1, g2, g3, g4, g5, g6, g7, g8⟩ := h
  have keep : ∀ (k : Nat), base ≤ k → (w.setCell a v).heap[k]? = w.heap[k]? := fun k hk => heap_setCell_other _ _ _ _ (by omega)
  refine ⟨A, c, M, k, xs, F, g1, (keep b g1).trans g2, ownsRow_setCell_below g3 ha v, g4, g5.block (keep M g4), g6, fun j x hx => ?_, g8⟩
  obtain ⟨B, m, d, e0, e1, e2, e3, e4, e5⟩ := g7 j x hx
  obtain ⟨q1, q2⟩ := sl_setb e4 e5 ha v
  exact ⟨B, m, d, e0, e1, e2, e3, q1, q2⟩
theorem Below.setc {B : Nat} {a w : World} (h : Below B a w) {p : Addr} (hp : B ≤ p.block) (u : Value) : Below B a (w.setCell p u) := h.setCell hp u
theorem outs_pos {ns : List NN} {l : List Int} (h : Outs ns l) (hl : l.length = 5) : 0 < ns.length := by
  obtain ⟨t, ht⟩ : ∃ t, l[0]? = some t := ⟨_, List.getElem?_eq_getElem (by omega)⟩
  have := (List.getElem?_eq_some_iff.1 (h 0 t ht).2).1
  omega
/-- the first k brought into range -/
def nrm (m : Int) (xs : List Int) (k : Nat) : List Int := (xs.take k).map (nf m) ++ xs.drop k
theorem boxes3 (w : World) (x y z : Int) : Boxes (((w.alloc (.cells #[.int .i64 x] 3)).alloc (.cells #[.int .i64 y] 3)).alloc (.cells #[.int .i64 z] 3)) w.heap.size [x, y, z] := by
  intro j v hj
  have hl := (List.getElem?_eq_some_iff.1 hj).1
  simp at hl
  have h' : j = 0 ∨ j = 1 ∨ j = 2 := by omega
  rcases h' with rfl | rfl | rfl <;> simp at hj <;> subst hj
  · rw [Below.heap_alloc _ _ _ (by simp; omega)]; exact two_a _ _ _
  · rw [Below.heap_alloc _ _ _ (by simp)]; exact two_b _ _ _
  · have := heap_alloc_new ((w.alloc (.cells #[.int .i64 x] 3)).alloc (.cells #[.int .i64 y] 3)) (.cells #[.int .i64 z] 3)
    simpa using this
theorem boxes4 (w : World) (x y z u : Int) : Boxes ((((w.alloc (.cells #[.int .i64 x] 3)).alloc (.cells #[.int .i64 y] 3)).alloc (.cells #[.int .i64 z] 3)).alloc (.cells #[.int .i64 u] 3)) w.heap.size [x, y, z, u] := by
  intro j v hj
  have hl := (List.getElem?_eq_some_iff.1 hj).1
  simp at hl
  by_cases h3 : j = 3
  · subst h3
    simp at hj
    subst hj
    have := heap_alloc_new (((w.alloc (.cells #[.int .i64 x] 3)).alloc (.cells #[.int .i64 y] 3)).alloc (.cells #[.int .i64 z] 3)) (.cells #[.int .i64 u] 3)
    simpa using this
  · rw [Below.heap_alloc _ _ _ (by simp; omega)]
    exact boxes3 w x y z j v (by
      have h' : j = 0 ∨ j = 1 ∨ j = 2 := by omega
      rcases h' with rfl | rfl | rfl <;> simpa using hj)
theorem open_iff {ns : List NN} {x pk a pl dr sk k a' t er : Int} (hx : IsT ns x (ofN 8 [pk, a, pl, dr])) (hp : IsT ns pk (ofN 7 [sk])) (hk : hasF ns k = true) (ha : hasF ns a' = true) (h : OpR ns k a' x t er) :
    ((k = sk ∧ a' = a) → er = 0 ∧ t = pl) ∧ (¬ (k = sk ∧ a' = a) → er = 40) := by
  have kn := known3 hk ha hx.has
  have hop : ∀ p, Opens ns k a' x p → (k = sk ∧ a' = a) ∧ p = pl := by
    rintro p ⟨n, p0, dr2, pn, h0, hn, ho, hnl, h1, hpn, hpo, hpl⟩
    rw [hx.2] at hn
    injection hn with hn
    rw [← hn] at hnl
    simp [ofN] at hnl
    rw [← hnl.1, hp.2] at hpn
    injection hpn with hpn
    rw [← hpn] at hpl
    simp [ofN] at hpl
    exact ⟨⟨hpl.symm, hnl.2.1.symm⟩, hnl.2.2.1.symm⟩
  rcases h with ⟨q, _⟩ | ⟨_, q, _, he⟩ | ⟨_, q, he⟩
  · rw [kn] at q; cases q
  · refine ⟨fun ⟨e1, e2⟩ => ?_, fun _ => he⟩
    subst e1; subst e2
    exact absurd ⟨_, pk, dr, _, hx.1, hx.2, rfl, rfl, hp.1, hp.2, rfl, rfl⟩ (q pl)
  · have := hop _ q
    exact ⟨fun _ => ⟨he, this.2⟩, fun r => absurd this.1 r⟩
theorem unlock_iff {ns : List NN} {y k0 n0 a0 pl k n a t er : Int} (hy : IsT ns y (ofN 9 [k0, n0, a0, pl])) (hk : hasF ns k = true) (hn : hasF ns n = true) (ha : hasF ns a = true) (h : UlR ns k n a y t er) :
    ((k = k0 ∧ n = n0 ∧ a = a0) → er = 0 ∧ t = pl) ∧ (¬ (k = k0 ∧ n = n0 ∧ a = a0) → er = 40) := by
  have kn := known4 hk hn ha hy.has
  have hop : ∀ p, Unlocks ns k n a y p → (k = k0 ∧ n = n0 ∧ a = a0) ∧ p = pl := by
    rintro p ⟨m, h0, hm, ho, hml⟩
    rw [hy.2] at hm
    injection hm with hm
    rw [← hm] at hml
    simp [ofN] at hml
    exact ⟨⟨hml.1.symm, hml.2.1.symm, hml.2.2.1.symm⟩, hml.2.2.2.symm⟩
  rcases h with ⟨q, _⟩ | ⟨_, q, _, he⟩ | ⟨_, q, he⟩
  · rw [kn] at q; cases q
  · refine ⟨fun ⟨e1, e2, e3⟩ => ?_, fun _ => he⟩
    subst e1; subst e2; subst e3
    exact absurd ⟨_, hy.1, hy.2, rfl, rfl⟩ (q pl)
  · have := hop _ q
    exact ⟨fun _ => ⟨he, this.2⟩, fun r => absurd this.1 r⟩
end Go.Proofs.YthbfaledmoobjaaDoor
