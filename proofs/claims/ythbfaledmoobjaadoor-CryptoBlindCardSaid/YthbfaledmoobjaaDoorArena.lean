/- The arena in memory, and what it is as a list of nodes. -/
import Derived.Test.YthbfaledmoobjaaDoorMaps
import Derived.Lib.ItoaLen
namespace Go.Proofs.YthbfaledmoobjaaDoor
open Go.RowKit

structure NN where
  op : Int
  n : Int
  s : ByteArray
  l : List Int
def W64 (k : Int) : Prop := -9223372036854775808 ≤ k ∧ k ≤ 9223372036854775807
/-- how many parts a node of some kind has -/
def arF (op : Int) : Int :=
  if op = 1 then 0 else if op = 2 then 0 else if op = 3 then -1 else if op = 4 then 1 else if op = 5 then 2 else if op = 6 then 3 else if op = 7 then 1 else if op = 8 then 4 else if op = 9 then 4
  else if op = 10 then 2 else if op = 11 then 2 else if op = 12 then 2 else -2
def hasF (ns : List NN) (t : Int) : Bool := decide (0 ≤ t) && decide (t < (ns.length : Int))
def opF (ns : List NN) (t : Int) : Int := match ns[t.toNat]? with | some x => x.op | none => 0
/-- a node that may be -/
structure May (ns : List NN) (x : NN) : Prop where
  kind : arF x.op ≠ -2
  parts : 0 ≤ arF x.op → (x.l.length : Int) = arF x.op
  few : x.l.length ≤ 64
  num : 0 ≤ x.n
  short : x.s.size ≤ 200
  atom : x.op ≠ 1 → x.n = 0
  text : x.op ≠ 2 → x.s = ⟨#[]⟩
  has : ∀ t ∈ x.l, hasF ns t = true
  key : x.op = 6 → opF ns (x.l.getD 1 0) = 2
/-- a node's text among others -/
def keyL (x : NN) : List UInt8 := Lib.itoa x.op ++ ((x.n :: x.l).flatMap fun v => 32 :: Lib.itoa v) ++ 124 :: x.s.data.toList
/-- what an arena holds -/
structure Wn (ns : List NN) (F : List UInt8 → Option Int) : Prop where
  may : ∀ j x, ns[j]? = some x → May (ns.take j) x
  key : ∀ k i, F k = some i ↔ ∃ j x, i = ((j : Nat) : Int) ∧ ns[j]? = some x ∧ keyL x = k
  wf : ∀ x ∈ ns, W64 x.op ∧ W64 x.n ∧ ∀ v ∈ x.l, W64 v
/-- the four cells of a node -/
structure At4 (w : World) (p : Addr) (x : NN) (A : Option Addr) (n c : Nat) : Prop where
  c0 : w.cell? p = some (.int .i64 x.op)
  c1 : w.cell? ⟨p.block, p.off + 1, none⟩ = some (.int .i64 x.n)
  c2 : w.cell? ⟨p.block, p.off + 2, none⟩ = some (.string x.s)
  c3 : w.cell? ⟨p.block, p.off + 3, none⟩ = some (.slice A n c)
  un : Sl w A n c (iv x.l)
theorem At4.keep {w w' : World} {p : Addr} {s : NN} {A : Option Addr} {n c : Nat} (h : At4 w p s A n c) (hk : ∀ q : Addr, q.block < w.heap.size → w'.cell? q = w.cell? q) : At4 w' p s A n c := by
  have k : ∀ {q : Addr} {v : Value}, w.cell? q = some v → w'.cell? q = some v := fun {q v} e => (hk q (World.block_lt_of_cell? w _ e)).trans e
  exact ⟨k h.c0, k h.c1, k h.c2, k h.c3, h.un.keep hk⟩
theorem At4.below {w w' : World} {p : Addr} {s : NN} {A : Option Addr} {n c : Nat} (h : At4 w p s A n c) (hb : Below w.heap.size w w') : At4 w' p s A n c := h.keep fun _ hp => hb.cell hp
/-- a row of numbers that lies in a block of numbers -/
def Nums (w : World) (A : Option Addr) (l : List Int) : Prop := l = [] ∨ ∃ a cur fz, A = some a ∧ w.heap[a.block]? = some (.cells cur 3 fz)
/-- .. of the arena's own -/
def NumsB (base : Nat) (w : World) (A : Option Addr) (l : List Int) : Prop := Nums w A l ∧ (l = [] ∨ ∀ a, A = some a → base ≤ a.block)
/-- the rows of an arena's nodes -/
def Nodes (base : Nat) (w : World) (xs : List Value) (ns : List NN) : Prop :=
  ∀ (j : Nat) (x : NN), ns[j]? = some x → ∃ B m d, xs[4 * j]? = some (.int .i64 x.op) ∧ xs[4 * j + 1]? = some (.int .i64 x.n) ∧ xs[4 * j + 2]? = some (.string x.s) ∧ xs[4 * j + 3]? = some (.slice B m d) ∧ Sl w B m d (iv x.l) ∧ NumsB base w B x.l
/-- an arena at block b, all of its own from 'base' on -/
def AR (w : World) (base b : Nat) (ns : List NN) : Prop :=
  ∃ A c M k xs F, base ≤ b ∧ w.heap[b]? = some (.cells #[.slice A ns.length c, .map (some M)] 53) ∧ Ow w base 56 4 A ns.length c xs ∧ base ≤ M ∧ MS w M k F ∧ k ≤ ns.length ∧ Nodes base w xs ns ∧ Wn ns F
theorem Nums.keep {w w' : World} {A : Option Addr} {l : List Int} (h : Nums w A l) (hk : ∀ q : Nat, q < w.heap.size → w'.heap[q]? = w.heap[q]?) : Nums w' A l := by
  rcases h with h | ⟨a, cur, fz, e, h⟩
  · exact .inl h
  · exact .inr ⟨a, cur, fz, e, (hk _ (Array.getElem?_eq_some_iff.1 h).1).trans h⟩
theorem Nodes.below {base : Nat} {w w' : World} {xs : List Value} {ns : List NN} (h : Nodes base w xs ns) (hb : Below w.heap.size w w') : Nodes base w' xs ns := fun j x hx => by
  obtain ⟨B, m, d, h0, h1, h2, h3, h4, h5⟩ := h j x hx
  exact ⟨B, m, d, h0, h1, h2, h3, h4.below hb, h5.1.keep hb.block, h5.2⟩
theorem AR.below {w w' : World} {base b : Nat} {ns : List NN} (h : AR w base b ns) (hb : Below w.heap.size w w') : AR w' base b ns := by
  obtain ⟨A, c, M, k, xs, F, h1, h2, h3, h4, h5, h6, h7, h8⟩ := h
  exact ⟨A, c, M, k, xs, F, h1, (hb.block _ (Array.getElem?_eq_some_iff.1 h2).1).trans h2, h3.below hb, h4, h5.block (hb.block _ h5.lt), h6, h7.below hb, h8⟩
theorem AR.alloc {w : World} {base b : Nat} {ns : List NN} (h : AR w base b ns) (o : Obj) : AR (w.alloc o) base b ns := h.below ((Below.refl _ w).alloc (Nat.le_refl _) o)
theorem AR.drewN {w : World} {base b : Nat} {ns : List NN} (h : AR w base b ns) (k : Nat) : AR (w.drewN k) base b ns := h.below (below_drewN (Below.refl _ w) k)
theorem AR.bit {w : World} {base b : Nat} {ns : List NN} (h : AR w base b ns) : b < w.heap.size := by
  obtain ⟨A, c, M, k, xs, F, h1, h2, h3, h4, h5, h6, h7, h8⟩ := h
  exact (Array.getElem?_eq_some_iff.1 h2).1
theorem AR.len_le {w : World} {base b : Nat} {ns : List NN} (h : AR w base b ns) : ns.length ≤ maxLen := by
  obtain ⟨A, c, M, k, xs, F, h1, h2, h3, h4, h5, h6, h7, h8⟩ := h
  rcases h3.2 with ⟨_, e⟩ | ⟨g, cap, cur, hv, _, _, h9, h10, _⟩
  · rw [e]; exact Nat.zero_le _
  · omega
theorem cell_of {w : World} {b : Nat} {cs : Array Value} {t : TypeId} {fz : Nat × Nat} (h : w.heap[b]? = some (.cells cs t fz)) (j : Nat) : w.cell? ⟨b, j, none⟩ = cs[j]? := by
  unfold World.cell?; simp [h]
/-- the arena's fields -/
theorem AR.fields {w : World} {base b : Nat} {ns : List NN} (h : AR w base b ns) : ∃ A c M, w.cell? ⟨b, 0, none⟩ = some (.slice A ns.length c) ∧ w.cell? ⟨b, 1, none⟩ = some (.map (some M)) := by
  obtain ⟨A, c, M, k, xs, F, h1, h2, h3, h4, h5, h6, h7, h8⟩ := h
  exact ⟨A, c, M, by rw [cell_of h2]; rfl, by rw [cell_of h2]; rfl⟩
/-- a node of the arena -/
theorem AR.node {w : World} {base b : Nat} {ns : List NN} (h : AR w base b ns) {j : Nat} {x : NN} (hx : ns[j]? = some x) :
    ∃ g c M B m d, w.cell? ⟨b, 0, none⟩ = some (.slice (some ⟨g, 0, none⟩) ns.length c) ∧ w.cell? ⟨b, 1, none⟩ = some (.map (some M)) ∧ At4 w (Addr.add ⟨g, 0, none⟩ (j * 4)) x B m d ∧ Nums w B x.l := by
  obtain ⟨A, c, M, k, xs, F, h1, h2, h3, h4, h5, h6, h7, h8⟩ := h
  obtain ⟨B, m, d, e0, e1, e2, e3, hs, hN⟩ := h7 j x hx
  have hj : j < ns.length := (List.getElem?_eq_some_iff.1 hx).1
  obtain ⟨g, rfl, _, _⟩ := Ow.form h3 (by omega)
  have cc : ∀ (q : Nat) (v : Value), xs[q]? = some v → w.cell? (Addr.add ⟨g, 0, none⟩ q) = some v := fun q v hv => World.ownsRow.cells h3 (g := g) rfl q v hv
  have ea : Addr.add ⟨g, 0, none⟩ (j * 4) = ⟨g, j * 4, none⟩ := by rw [add_mk]; simp
  refine ⟨g, c, M, B, m, d, by rw [cell_of h2]; rfl, by rw [cell_of h2]; rfl, ?_, hN.1⟩
  rw [ea]
  refine ⟨?_, ?_, ?_, ?_, hs⟩
  · have := cc _ _ e0; rw [add_mk, Nat.mul_comm, Nat.zero_add] at this; exact this
  · have := cc _ _ e1; rw [add_mk, Nat.mul_comm, Nat.zero_add] at this; exact this
  · have := cc _ _ e2; rw [add_mk, Nat.mul_comm, Nat.zero_add] at this; exact this
  · have := cc _ _ e3; rw [add_mk, Nat.mul_comm, Nat.zero_add] at this; exact this
theorem AR.may {w : World} {base b : Nat} {ns : List NN} (h : AR w base b ns) {j : Nat} {x : NN} (hx : ns[j]? = some x) : May (ns.take j) x := by
  obtain ⟨A, c, M, k, xs, F, h1, h2, h3, h4, h5, h6, h7, h8⟩ := h
  exact h8.may j x hx
/-- a block that is no arena's: no row of nodes, no arena, no map -/
def Plain (o : Obj) : Prop := (∀ c fz, o ≠ .cells c 56 fz) ∧ (∀ c fz, o ≠ .cells c 53 fz) ∧ ∀ es cl, o ≠ .map es cl
theorem Plain.cells {c : Array Value} {t : TypeId} {fz : Nat × Nat} (h6 : t ≠ 56) (h3 : t ≠ 53) : Plain (.cells c t fz) :=
  ⟨fun c fz e => by injection e with _ e; exact h6 e, fun c fz e => by injection e with _ e; exact h3 e, fun es cl e => by cases e⟩
/-- the frame of what grows an arena: below 'base' all stands, and so do all blocks that are no arena's -/
structure Af (B : Nat) (w w' : World) : Prop where
  below : Below B w w'
  keep : ∀ (k : Nat) (o : Obj), w.heap[k]? = some o → Plain o → w'.heap[k]? = some o
theorem Af.nums {B : Nat} {w w' : World} (h : Af B w w') (k : Nat) (c : Array Value) (fz : Nat × Nat) (hk : w.heap[k]? = some (Obj.cells c 3 fz)) : w'.heap[k]? = some (Obj.cells c 3 fz) := h.keep k _ hk (Plain.cells (by decide) (by decide))
theorem Af.refl (B : Nat) (w : World) : Af B w w := ⟨Below.refl _ _, fun _ _ h _ => h⟩
theorem Af.trans {B : Nat} {a b c : World} (h : Af B a b) (k : Af B b c) : Af B a c := ⟨h.below.trans k.below, fun i o hc ho => k.keep i o (h.keep i o hc ho) ho⟩
theorem Af.of {B : Nat} {a b : World} (h : Below a.heap.size a b) (hB : B ≤ a.heap.size) : Af B a b := ⟨h.mono hB, fun k _ hc _ => (h.block k (Array.getElem?_eq_some_iff.1 hc).1).trans hc⟩
theorem Af.size {B : Nat} {a b : World} (h : Af B a b) : a.heap.size ≤ b.heap.size := h.below.size
end Go.Proofs.YthbfaledmoobjaaDoor
