/- A reader in memory, and what its calls leave as it was. -/
import Derived.Test.YtjebmmmjjiomfaaCParse
import Derived.Test.YtjebmmmjjiomfaaCNode
namespace Go.Proofs.Ytjebmmmjjiomfaa
open Go.RowKit

/-- of the blocks that were, those of X alone may be changed -/
structure KX (X : Nat → Prop) (w w' : World) : Prop where
  zero : Below 0 w w'
  keep : ∀ b, b < w.heap.size → ¬ X b → w'.heap[b]? = w.heap[b]?
theorem KX.size {X : Nat → Prop} {w w' : World} (h : KX X w w') : w.heap.size ≤ w'.heap.size := h.zero.size
theorem KX.refl (X : Nat → Prop) (w : World) : KX X w w := ⟨Below.refl _ _, fun _ _ _ => rfl⟩
theorem KX.trans {X : Nat → Prop} {a b c : World} (h : KX X a b) (k : KX X b c) : KX X a c :=
  ⟨h.zero.trans k.zero, fun i hi hx => (k.keep i (by have := h.size; omega) hx).trans (h.keep i hi hx)⟩
/-- a later call may change what is new -/
theorem KX.next {X Y : Nat → Prop} {a b c : World} (h : KX X a b) (k : KX Y b c) (hY : ∀ i, Y i → X i ∨ a.heap.size ≤ i) : KX X a c :=
  ⟨h.zero.trans k.zero, fun i hi hx => (k.keep i (by have := h.size; omega) (fun e => by rcases hY i e with e | e; exact hx e; omega)).trans (h.keep i hi hx)⟩
theorem KX.mono {X Y : Nat → Prop} {w w' : World} (h : KX X w w') (hY : ∀ i, X i → Y i) : KX Y w w' := ⟨h.zero, fun i hi hx => h.keep i hi (fun e => hx (hY i e))⟩
theorem KX.of {X : Nat → Prop} {w w' : World} (h : Below w.heap.size w w') : KX X w w' := ⟨h.mono (Nat.zero_le _), fun b hb _ => h.block b hb⟩
theorem KX.below {X : Nat → Prop} {w w' : World} {B : Nat} (h : KX X w w') (hB : B ≤ w.heap.size) (hX : ∀ b, X b → B ≤ b) : Below B w w' :=
  ⟨h.zero.os, h.zero.tape, h.zero.output, h.zero.size, fun b hb => h.keep b (by omega) (fun e => by have := hX b e; omega)⟩
theorem KX.alloc {X : Nat → Prop} {a b : World} (h : KX X a b) (o : Obj) : KX X a (b.alloc o) := h.trans (KX.of ((Below.refl _ b).alloc (Nat.le_refl _) o))
theorem KX.drew {X : Nat → Prop} {a b : World} (h : KX X a b) : KX X a b.drew := ⟨below_drewN h.zero 1, h.keep⟩
theorem KX.set {X : Nat → Prop} {a b : World} (h : KX X a b) (q : Addr) (v : Value) (hq : X q.block ∨ a.heap.size ≤ q.block) : KX X a (b.setCell q v) :=
  ⟨h.zero.setCell (p := q) (Nat.zero_le _) v, fun i hi hx => (Below.heap_setCell _ _ _ _ (by
    show i ≠ q.block; intro e; subst e; rcases hq with e | e; exact hx e; omega)).trans (h.keep i hi hx)⟩
theorem KX.cell {X : Nat → Prop} {w w' : World} (h : KX X w w') {q : Addr} {v : Value} (hv : w.cell? q = some v) (hq : ¬ X q.block) : w'.cell? q = some v :=
  (World.cell?_of_block (h.keep _ (World.block_lt_of_cell? w _ hv) hq)).trans hv
theorem KX.frz {X : Nat → Prop} {w w' : World} (h : KX X w w') {q : Addr} {b : Bool} (hv : w.frozen? q = b) (hq : ¬ X q.block) (hs : q.block < w.heap.size) : w'.frozen? q = b :=
  (World.frozen?_of_block (h.keep _ hs hq)).trans hv
/-- a row that lies in no block of X -/
def SlX (X : Nat → Prop) (w : World) (A : Option Addr) (n c : Nat) (xs : List Value) : Prop := Sl w A n c xs ∧ (xs = [] ∨ ∃ ad, A = some ad ∧ ¬ X ad.block)
theorem SlX.kx {X Y : Nat → Prop} {w w' : World} {A : Option Addr} {n c : Nat} {xs : List Value} (h : SlX X w A n c xs) (k : KX Y w w') (hY : ∀ i, Y i → i < w.heap.size → X i) : SlX X w' A n c xs := by
  refine ⟨⟨h.1.len, h.1.cap, h.1.top, ?_⟩, h.2⟩
  rcases h.2 with e | ⟨ad, rfl, hs⟩
  · exact .inl e
  · rcases h.1.lies with e | ⟨ad2, e, hc⟩
    · exact .inl e
    · injection e with e
      subst e
      exact .inr ⟨_, rfl, fun j v hv => by
        have h0 := hc j v hv
        exact k.cell h0 (fun e => hs (by have := hY _ e (World.block_lt_of_cell? w _ h0); rwa [blk_add] at this))⟩
theorem SlX.weak {X Y : Nat → Prop} {w : World} {A : Option Addr} {n c : Nat} {xs : List Value} (h : SlX X w A n c xs) (hY : ∀ i, i < w.heap.size → Y i → X i) : SlX Y w A n c xs := by
  refine ⟨h.1, ?_⟩
  rcases h.2 with e | ⟨ad, rfl, hs⟩
  · exact .inl e
  · by_cases hx : xs = []
    · exact .inl hx
    · exact .inr ⟨ad, rfl, fun e => hs (hY _ (h.1.lies.blk rfl hx) e)⟩
theorem SlX.sub {X : Nat → Prop} {w : World} {A : Option Addr} {n c : Nat} {l : List UInt8} (h : SlX X w A n c (bv l)) {k : Nat} (hk : k ≤ n) : SlX X w (if c = k then A else A.map (·.add k)) (n - k) (c - k) (bv (l.drop k)) := by
  have hl : l.length = n := by have := h.1.len; rwa [bv_length] at this
  have := h.1.sub hk (Nat.le_refl n)
  rw [List.take_of_length_le (by simp; omega), ← bv_drop] at this
  refine ⟨this, ?_⟩
  rcases h.2 with e | ⟨ad, rfl, hs⟩
  · left
    have : l = [] := by cases l; rfl; simp [bv] at e
    rw [this]; simp [bv]
  · by_cases e : c = k
    · rw [if_pos e]; exact .inr ⟨ad, rfl, hs⟩
    · rw [if_neg e]; exact .inr ⟨_, rfl, by rw [blk_add]; exact hs⟩
/-- a reader at block p, of bytes that lie in no block of X -/
def RD (X : Nat → Prop) (w : World) (p : Nat) (l : List UInt8) : Prop :=
  ∃ A c, w.cell? ⟨p, 0, none⟩ = some (.slice A l.length c) ∧ w.frozen? ⟨p, 0, none⟩ = false ∧ SlX X w A l.length c (bv l) ∧ IsT w p 132
theorem RD.bit {X : Nat → Prop} {w : World} {p : Nat} {l : List UInt8} (h : RD X w p l) : p < w.heap.size := by
  obtain ⟨A, c, h1, _⟩ := h; exact World.block_lt_of_cell? w _ h1
theorem IsT.kx {X : Nat → Prop} {w w' : World} {b : Nat} {t : TypeId} (h : IsT w b t) (k : KX X w w') (hb : ¬ X b) : IsT w' b t := by
  obtain ⟨cs, fz, h⟩ := h
  exact ⟨cs, fz, (k.keep b (Array.getElem?_eq_some_iff.1 h).1 hb).trans h⟩
theorem RD.kx {X Y : Nat → Prop} {w w' : World} {p : Nat} {l : List UInt8} (h : RD X w p l) (k : KX Y w w') (hY : ∀ i, Y i → i < w.heap.size → X i) (hp : ¬ Y p) : RD X w' p l := by
  have hb := h.bit
  obtain ⟨A, c, h1, h2, h3, h4⟩ := h
  exact ⟨A, c, k.cell h1 hp, k.frz h2 hp hb, h3.kx k hY, h4.kx k hp⟩
theorem RD.weak {X Y : Nat → Prop} {w : World} {p : Nat} {l : List UInt8} (h : RD X w p l) (hY : ∀ i, i < w.heap.size → Y i → X i) : RD Y w p l := by
  obtain ⟨A, c, h1, h2, h3, h4⟩ := h
  exact ⟨A, c, h1, h2, h3.weak hY, h4⟩
/-- the set of X and all that is new -/
abbrev plus (X : Nat → Prop) (w : World) : Nat → Prop := fun b => X b ∨ w.heap.size ≤ b
theorem RD.plus {X : Nat → Prop} {w : World} {p : Nat} {l : List UInt8} (h : RD X w p l) : RD (plus X w) w p l := h.weak fun i hi hy => by rcases hy with e | e; exact e; omega
/-- the rest laid into a reader -/
theorem RD.rest {X : Nat → Prop} {w : World} {p c k : Nat} {A : Option Addr} {l : List UInt8} (h1 : w.cell? ⟨p, 0, none⟩ = some (.slice A l.length c)) (h2 : w.frozen? ⟨p, 0, none⟩ = false) (h3 : SlX X w A l.length c (bv l)) (h4 : IsT w p 132) (hX : X p) (hk : k ≤ l.length) :
    RD X (w.setCell ⟨p, 0, none⟩ (.slice (if c = k then A else A.map (·.add k)) (l.length - k) (c - k))) p (l.drop k) := by
  refine ⟨if c = k then A else A.map (·.add k), c - k, ?_, ?_, ?_, h4.set _ _⟩
  · rw [List.length_drop]; exact World.cell?_setCell_same _ _ _ h1
  · rw [World.frozen?_setCell]; exact h2
  · rw [List.length_drop]
    exact (h3.sub hk).kx ((KX.refl (· = p) w).set ⟨p, 0, none⟩ _ (.inl rfl)) (fun i e _ => by rw [e]; exact hX)
/-- rows of numbers are kept -/
def K3 (w w' : World) : Prop := ∀ (b : Nat) (cs : Array Value) (fz : Nat × Nat), w.heap[b]? = some (.cells cs 3 fz) → w'.heap[b]? = some (.cells cs 3 fz)
theorem K3.refl (w : World) : K3 w w := fun _ _ _ h => h
theorem K3.trans {a b c : World} (h : K3 a b) (k : K3 b c) : K3 a c := fun i cs fz e => k i cs fz (h i cs fz e)
theorem K3.of {w w' : World} (h : Below w.heap.size w w') : K3 w w' := fun b _ _ e => (h.block b (Array.getElem?_eq_some_iff.1 e).1).trans e
theorem K3.alloc {a b : World} (h : K3 a b) (o : Obj) : K3 a (b.alloc o) := h.trans (K3.of ((Below.refl _ b).alloc (Nat.le_refl _) o))
theorem K3.kx {X : Nat → Prop} {w w' : World} (h : KX X w w') (hX : ∀ b, X b → ∃ t, t ≠ 3 ∧ IsT w b t) : K3 w w' := fun b cs fz e =>
  (h.keep b (Array.getElem?_eq_some_iff.1 e).1 (fun hx => by
    obtain ⟨t, ht, cs2, fz2, e2⟩ := hX b hx
    rw [e2] at e; injection e with e; injection e with _ e; exact ht e)).trans e
theorem K3.set {a b : World} (h : K3 a b) {q : Addr} {t : TypeId} (hq : IsT b q.block t) (ht : t ≠ 3) (v : Value) : K3 a (b.setCell q v) :=
  h.trans (K3.kx ((KX.refl (· = q.block) b).set q v (.inl rfl)) (fun i e => by subst e; exact ⟨t, ht, hq⟩))
theorem K3.grown {a b c : World} (h : K3 a b) {base : Nat} {e : TypeId} {size n : Nat} {v : Value} {xs : List Value} (hO : b.ownsRow base e size v n xs) (he : e ≠ 3) (hg : b.grownBy c v.ownBlock) : K3 a c :=
  h.trans fun i cs fz hi => ((Lib.OthersKept.refl e none b).grown hg (Lib.ownsRow_kind hO)) i _ hi (by simp) (fun c' fz' e2 => by injection e2 with _ e2; exact he e2.symm)
/-- numbers in a row of their own, or none -/
def UO (w : World) (B : Option Addr) (m d : Nat) (un : List Int) : Prop :=
  un.length = m ∧ m ≤ d ∧ d ≤ maxLen ∧ (un = [] ∨ ∃ (g : Nat) (cs : Array Value) (fz : Nat × Nat), B = some ⟨g, 0, none⟩ ∧ w.heap[g]? = some (.cells cs 3 fz) ∧ ∀ (j : Nat) (z : Int), un[j]? = some z → cs[j]? = some (.int .i64 z))
theorem UO.none (w : World) : UO w Option.none 0 0 [] := ⟨rfl, Nat.le_refl _, Nat.zero_le _, .inl rfl⟩
theorem UO.k3 {w w' : World} {B : Option Addr} {m d : Nat} {un : List Int} (h : UO w B m d un) (k : K3 w w') : UO w' B m d un := by
  obtain ⟨h1, h2, h3, h4⟩ := h
  refine ⟨h1, h2, h3, ?_⟩
  rcases h4 with e | ⟨g, cs, fz, e1, e2, e3⟩
  · exact .inl e
  · exact .inr ⟨g, cs, fz, e1, k g cs fz e2, e3⟩
theorem UO.sl {w : World} {B : Option Addr} {m d : Nat} {un : List Int} (h : UO w B m d un) : Sl w B m d (iv un) := by
  obtain ⟨h1, h2, h3, h4⟩ := h
  refine ⟨by simpa using h1, h2, h3, ?_⟩
  rcases h4 with e | ⟨g, cs, fz, rfl, e2, e3⟩
  · subst e; exact .inl rfl
  · refine .inr ⟨_, rfl, fun j v hv => ?_⟩
    rw [iv_get] at hv
    cases hz : un[j]? with
    | none => rw [hz] at hv; cases hv
    | some z =>
      rw [hz] at hv
      injection hv with hv
      subst hv
      rw [add_mk, Nat.zero_add, cell_of e2]
      exact e3 j z hz
theorem UO.of {w : World} {base : Nat} {B : Option Addr} {m d : Nat} {un : List Int} (h : Ow w base 3 1 B m d (iv un)) : UO w B m d un := by
  have hs := h.sl
  refine ⟨by have := hs.len; rwa [iv_length] at this, hs.cap, hs.top, ?_⟩
  by_cases he : un = []
  · exact .inl he
  · have hm : 0 < m := by have := hs.len; rw [iv_length] at this; cases un; exact absurd rfl he; simp at this; omega
    obtain ⟨g, rfl, _, _⟩ := h.form hm
    obtain ⟨cs, fz, hc⟩ : IsT w g 3 := by
      rcases h.2 with ⟨hv, h0⟩ | ⟨g2, cap, cur, hv, _, hg, _⟩
      · omega
      · injection hv with hA; injection hA with hA; injection hA with hA; subst hA; exact ⟨_, _, hg⟩
    refine .inr ⟨g, cs, fz, rfl, hc, fun j z hz => ?_⟩
    have := h.cell (j := j) (u := .int .i64 z) (by rw [iv_get, hz]; rfl)
    rwa [cell_of hc] at this
/-- how a reader's call ends -/
def REnd {α : Type} (o : Option (α × List UInt8)) (V : α → World → Value → Prop) (X : Nat → Prop) (p : Nat) (w : World) (e : Ending) (w' : World) : Prop :=
  (∃ a r v, o = some (a, r) ∧ e = .returned v ∧ V a w' v ∧ RD X w' p r ∧ KX (· = p) w w') ∨ (o = none ∧ e = .panicked [badE] ∧ KX (· = p) w w')
end Go.Proofs.Ytjebmmmjjiomfaa
