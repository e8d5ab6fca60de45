/- Proposals, path nodes and commits in memory. -/
import Derived.Test.YtjebmmmjjiomfaaCWritten
namespace Go.Proofs.Ytjebmmmjjiomfaa
open Go.RowKit

/-- a row of things, of so many cells each -/
structure Rw {α : Type} (E : World → α → Addr → Prop) (m : Nat) (w : World) (A : Option Addr) (n c : Nat) (l : List α) : Prop where
  len : l.length = n
  cap : n ≤ c
  top : c ≤ maxLen
  lies : l = [] ∨ ∃ ad, A = some ad ∧ ∀ (k : Nat) (s : α), l[k]? = some s → E w s (ad.add (k * m))
section
variable {α : Type} {E : World → α → Addr → Prop} {m : Nat} {w w' : World} {A : Option Addr} {n c : Nat} {l : List α}
theorem Rw.none (E : World → α → Addr → Prop) (m : Nat) (w : World) : Rw E m w Option.none 0 0 [] := ⟨rfl, Nat.le_refl _, Nat.zero_le _, .inl rfl⟩
theorem Rw.keep (h : Rw E m w A n c l) (hk : ∀ s p, E w s p → E w' s p) : Rw E m w' A n c l := by
  refine ⟨h.len, h.cap, h.top, ?_⟩
  rcases h.lies with e | ⟨ad, hA, hc⟩
  · exact .inl e
  · exact .inr ⟨ad, hA, fun k s hs => hk _ _ (hc k s hs)⟩
theorem Rw.at_ (h : Rw E m w A n c l) {k : Nat} (hk : k < n) : ∃ ad s, A = some ad ∧ l[k]? = some s ∧ E w s (ad.add (k * m)) := by
  have hl : k < l.length := by have := h.len; omega
  have hs := List.getElem?_eq_getElem hl
  rcases h.lies with e | ⟨ad, hA, hc⟩
  · rw [e] at hl; simp at hl
  · exact ⟨ad, _, hA, hs, hc _ _ hs⟩
end
/-- a proposal's ten cells -/
def At10 (w : World) (s : PR) (p : Addr) : Prop := ∃ A n c, w.cell? p = some (.int .i64 s.k) ∧ w.cell? ⟨p.block, p.off + 1, none⟩ = some (.int .i64 s.from_) ∧
  w.cell? ⟨p.block, p.off + 2, none⟩ = some (.int .i64 s.leaf.k) ∧ w.cell? ⟨p.block, p.off + 3, none⟩ = some (.int .i64 s.leaf.id) ∧ w.cell? ⟨p.block, p.off + 4, none⟩ = some (.int .i64 s.leaf.enc) ∧
  w.cell? ⟨p.block, p.off + 5, none⟩ = some (.int .i64 s.leaf.sig) ∧ w.cell? ⟨p.block, p.off + 6, none⟩ = some (.int .i64 s.leaf.hash) ∧ w.cell? ⟨p.block, p.off + 7, none⟩ = some (.slice A n c) ∧
  w.cell? ⟨p.block, p.off + 8, none⟩ = some (.int .i64 s.at_) ∧ w.cell? ⟨p.block, p.off + 9, none⟩ = some (.int .i64 s.term) ∧ Sl w A n c (iv s.leaf.un)
/-- a path node's two cells -/
def At2 (w : World) (s : PN) (p : Addr) : Prop := ∃ A n c, w.cell? p = some (.int .i64 s.enc) ∧ w.cell? ⟨p.block, p.off + 1, none⟩ = some (.slice A n c) ∧ Sl w A n c (iv s.seals)
theorem At10.below {w w' : World} (hB : Below w.heap.size w w') (s : PR) (p : Addr) (h : At10 w s p) : At10 w' s p := by
  obtain ⟨A, n, c, h0, h1, h2, h3, h4, h5, h6, h7, h8, h9, hs⟩ := h
  have k : ∀ {q : Addr} {v : Value}, w.cell? q = some v → w'.cell? q = some v := fun {q v} e => (hB.cell (World.block_lt_of_cell? w _ e)).trans e
  exact ⟨A, n, c, k h0, k h1, k h2, k h3, k h4, k h5, k h6, k h7, k h8, k h9, hs.below hB⟩
theorem At2.below {w w' : World} (hB : Below w.heap.size w w') (s : PN) (p : Addr) (h : At2 w s p) : At2 w' s p := by
  obtain ⟨A, n, c, h0, h1, hs⟩ := h
  have k : ∀ {q : Addr} {v : Value}, w.cell? q = some v → w'.cell? q = some v := fun {q v} e => (hB.cell (World.block_lt_of_cell? w _ e)).trans e
  exact ⟨A, n, c, k h0, k h1, hs.below hB⟩
abbrev Ps (w : World) := Rw At10 10 w
abbrev Ns (w : World) := Rw At2 2 w
/-- where a commit's three rows lie -/
structure CP where
  pA : Option Addr
  pn : Nat
  pc : Nat
  lA : Option Addr
  ln : Nat
  lc : Nat
  nA : Option Addr
  nn : Nat
  nc : Nat
/-- a commit's thirteen cells -/
abbrev cc (x : CM) (P : CP) : Array Value := #[.int .i64 x.by_, .int .i64 x.epoch, .slice P.pA P.pn P.pc, .bool x.has, .int .i64 x.leaf.k, .int .i64 x.leaf.id, .int .i64 x.leaf.enc, .int .i64 x.leaf.sig, .int .i64 x.leaf.hash, .slice P.lA P.ln P.lc, .slice P.nA P.nn P.nc, .int .i64 x.sig, .int .i64 x.tag]
def cv (x : CM) (P : CP) : Value := .agg (cc x P)
structure CMem (w : World) (x : CM) (P : CP) : Prop where
  ps : Ps w P.pA P.pn P.pc x.props
  un : Sl w P.lA P.ln P.lc (iv x.leaf.un)
  ns : Ns w P.nA P.nn P.nc x.nodes
theorem CMem.below {w w' : World} {x : CM} {P : CP} (h : CMem w x P) (hB : Below w.heap.size w w') : CMem w' x P := ⟨h.ps.keep (At10.below hB), h.un.below hB, h.ns.keep (At2.below hB)⟩
/-- how great a commit is -/
def szC (x : CM) : Nat := x.props.length + x.nodes.length + x.leaf.un.length + (x.props.map fun p => p.leaf.un.length).sum + (x.nodes.map fun n => n.seals.length).sum
theorem sum_mem {α : Type} (g : α → Nat) : ∀ {l : List α} {s : α}, s ∈ l → g s ≤ (l.map g).sum
  | a :: l, s, h => by
    simp only [List.map_cons, List.sum_cons]
    rcases List.mem_cons.1 h with e | e
    · subst e; omega
    · have := sum_mem g e; omega
def pnB' (n : PN) : Option (List UInt8) := seqB (nsI [n.enc]) ((nsI n.seals).bind vecB)
theorem pnB'_len {n : PN} {b : List UInt8} (h : pnB' n = some b) : b.length ≤ 4 * n.seals.length + 8 := by
  obtain ⟨x, y, h1, h2, rfl⟩ := seqB_some h
  obtain ⟨z, h3, h4⟩ := bindB_some h2
  have := nsI_len h1; have := nsI_len h3; have := vecB_len' h4
  simp at *; omega
theorem propB_len {s : PR} {b : List UInt8} (h : propB s = some b) : b.length ≤ 4 * s.leaf.un.length + 40 := by
  obtain ⟨x, y, h1, h2, rfl⟩ := seqB_some h
  obtain ⟨u, v, h3, h4, rfl⟩ := seqB_some h2
  have := nsI_len h1; have := nodeB_len h3; have := nsI_len h4
  simp at *; omega
end Go.Proofs.Ytjebmmmjjiomfaa
