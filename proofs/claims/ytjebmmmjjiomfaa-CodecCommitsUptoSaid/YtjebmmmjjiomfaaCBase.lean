/- Trees, commits and welcomes as plain data, their bytes, and a writer in memory. -/
import Derived.Test.YtjebmmmjjiomfaaCMust
import Derived.Lib.OthersKept
import Derived.Lib.OwnKind
namespace Go.Proofs.Ytjebmmmjjiomfaa
open Go.RowKit

structure TN where
  k : Int
  id : Int
  enc : Int
  sig : Int
  hash : Int
  un : List Int
structure PR where
  k : Int
  from_ : Int
  leaf : TN
  at_ : Int
  term : Int
structure PN where
  enc : Int
  seals : List Int
structure CM where
  by_ : Int
  epoch : Int
  props : List PR
  has : Bool
  leaf : TN
  nodes : List PN
  sig : Int
  tag : Int
structure WM where
  at_ : Int
  by_ : Int
  id : Int
  epoch : Int
  tree : List TN
  conf : Int
  ext : Int
  sig : Int
  tag : Int
  sealed_ : Int
/-- a number's bytes -/
def nI (n : Int) : Option (List UInt8) := if 0 ≤ n ∧ n ≤ 1073741823 then some (intL n.toNat) else none
/-- numbers' bytes -/
def nsI : List Int → Option (List UInt8)
  | [] => some []
  | n :: l => (nI n).bind fun a => (nsI l).bind fun b => some (a ++ b)
/-- a vector's bytes -/
def vecB (l : List UInt8) : Option (List UInt8) := if l.length < 1073741824 then some (bytesL l) else none
def seqB (a b : Option (List UInt8)) : Option (List UInt8) := a.bind fun x => b.bind fun y => some (x ++ y)
def allB {α : Type} (f : α → Option (List UInt8)) : List α → Option (List UInt8)
  | [] => some []
  | x :: l => seqB (f x) (allB f l)
/-- a node's bytes -/
def nodeB (n : TN) : Option (List UInt8) :=
  if n.k = 0 then (if n.id = 0 ∧ n.enc = 0 ∧ n.sig = 0 ∧ n.hash = 0 ∧ n.un = [] then nsI [0] else none)
  else if n.k = 1 then (if n.un = [] then nsI [1, n.id, n.enc, n.sig, n.hash] else none)
  else if n.k = 2 then (if n.id = 0 ∧ n.sig = 0 then seqB (nsI [2, n.enc, n.hash]) ((nsI n.un).bind vecB) else none)
  else none
def treeB (t : List TN) : Option (List UInt8) := (allB nodeB t).bind vecB
def pathB (leaf : TN) (ns : List PN) : Option (List UInt8) :=
  seqB (nodeB leaf) ((allB (fun n => seqB (nsI [n.enc]) ((nsI n.seals).bind vecB)) ns).bind vecB)
def propB (p : PR) : Option (List UInt8) := seqB (nsI [p.k, p.from_]) (seqB (nodeB p.leaf) (nsI [p.at_, p.term]))
def zeroN (n : TN) : Prop := n.k = 0 ∧ n.id = 0 ∧ n.enc = 0 ∧ n.sig = 0 ∧ n.hash = 0 ∧ n.un = []
instance (n : TN) : Decidable (zeroN n) := by unfold zeroN; infer_instance
def commitB (c : CM) : Option (List UInt8) :=
  seqB (nsI [c.by_, c.epoch]) (seqB ((allB propB c.props).bind vecB) (seqB (nsI [c.sig, c.tag])
    (if c.has then seqB (nsI [1]) (pathB c.leaf c.nodes) else if zeroN c.leaf ∧ c.nodes = [] then nsI [0] else none)))
def welcomeB (x : WM) : Option (List UInt8) :=
  seqB (nsI [x.at_, x.by_, x.id, x.epoch]) (seqB (treeB x.tree) (nsI [x.conf, x.ext, x.sig, x.tag, x.sealed_]))

theorem nI_len {n : Int} {b : List UInt8} (h : nI n = some b) : b.length ≤ 4 := by
  unfold nI at h; split at h
  · injection h with h; subst h; exact (intL_le _).2
  · cases h
theorem nI_yes {n : Int} (h : 0 ≤ n ∧ n ≤ 1073741823) : nI n = some (intL n.toNat) := if_pos h
theorem nI_no {n : Int} (h : ¬ (0 ≤ n ∧ n ≤ 1073741823)) : nI n = none := if_neg h
theorem seqB_some {a b : Option (List UInt8)} {z : List UInt8} (h : seqB a b = some z) : ∃ x y, a = some x ∧ b = some y ∧ z = x ++ y := by
  unfold seqB at h
  cases a with
  | none => cases h
  | some x => cases b with
    | none => cases h
    | some y => injection h with h; exact ⟨x, y, rfl, rfl, h.symm⟩
@[simp] theorem seqB_none (b : Option (List UInt8)) : seqB none b = none := rfl
@[simp] theorem seqB_none' (a : Option (List UInt8)) : seqB a none = none := by cases a <;> rfl
theorem seqB_yes (x y : List UInt8) : seqB (some x) (some y) = some (x ++ y) := rfl
theorem seqB_assoc (a b c : Option (List UInt8)) : seqB (seqB a b) c = seqB a (seqB b c) := by
  cases a <;> cases b <;> cases c <;> simp [seqB]
theorem nsI_cons (n : Int) (l : List Int) : nsI (n :: l) = seqB (nI n) (nsI l) := rfl
theorem nsI_len : ∀ {l : List Int} {b : List UInt8}, nsI l = some b → b.length ≤ 4 * l.length
  | [], b, h => by injection h with h; subst h; simp
  | n :: l, b, h => by
    rw [nsI_cons] at h
    obtain ⟨x, y, h1, h2, rfl⟩ := seqB_some h
    have := nI_len h1
    have := nsI_len h2
    simp; omega
theorem vecB_len {l b : List UInt8} (h : vecB l = some b) : b.length ≤ 1073741828 := by
  unfold vecB at h; split at h
  · injection h with h; subst h; rw [bytesL_len]; have := (intL_le l.length).2; omega
  · cases h

/-! ### a writer -/
/-- a writer at block p: it has written l, into a row of its own -/
def WR (w : World) (p : Nat) (l : List UInt8) : Prop := ∃ A c, w.heap[p]? = some (.cells #[.slice A l.length c] 126 (0, 0)) ∧ Ow w (p + 1) 5 1 A l.length c (bv l)
/-- what a writer at block p leaves as it was -/
structure KW (p : Nat) (w w' : World) : Prop where
  below : Below p w w'
  keep : Lib.OthersKept 5 (some p) w w'
theorem KW.refl (p : Nat) (w : World) : KW p w w := ⟨Below.refl _ _, Lib.OthersKept.refl _ _ _⟩
theorem KW.trans {p : Nat} {a b c : World} (h : KW p a b) (k : KW p b c) : KW p a c := ⟨h.below.trans k.below, h.keep.trans k.keep⟩
theorem KW.size {p : Nat} {a b : World} (h : KW p a b) : a.heap.size ≤ b.heap.size := h.below.size
theorem KW.of {p : Nat} {a b : World} (h : Below a.heap.size a b) (hp : p ≤ a.heap.size) : KW p a b := ⟨h.mono hp, fun k _ hc _ _ => (h.block k (Array.getElem?_eq_some_iff.1 hc).1).trans hc⟩
theorem KW.alloc {p : Nat} {a b : World} (h : KW p a b) (hp : p ≤ b.heap.size) (o : Obj) : KW p a (b.alloc o) := ⟨h.below.alloc hp o, h.keep.alloc o⟩
theorem KW.drew {p : Nat} {a b : World} (h : KW p a b) : KW p a b.drew := ⟨below_drewN h.below 1, h.keep⟩
/-- a younger writer's -/
theorem KW.inner {p q : Nat} {a b c : World} (h : KW p a b) (k : KW q b c) (hpq : p ≤ q) (hq : a.heap.size ≤ q) : KW p a c :=
  ⟨h.below.trans (k.below.mono hpq), fun i o hi hb ho => k.keep i o (h.keep i o hi hb ho) (by have := (Array.getElem?_eq_some_iff.1 hi).1; intro e; injection e; omega) ho⟩
/-- a block that a writer at block p leaves as it is -/
def Saf (w : World) (p b : Nat) : Prop := b < w.heap.size ∧ (b < p ∨ (b ≠ p ∧ ∀ c fz, w.heap[b]? ≠ some (.cells c 5 fz)))
theorem KW.saf {p b : Nat} {w w' : World} (h : KW p w w') (hs : Saf w p b) : w'.heap[b]? = w.heap[b]? := by
  rcases hs.2 with hb | ⟨hb, hn⟩
  · exact h.below.block b hb
  · have e := Array.getElem?_eq_getElem hs.1
    rw [e]
    exact h.keep b _ e (fun e => hb (by injection e)) (fun c fz e2 => hn c fz (by rw [e, e2]))
theorem Saf.kw {p b : Nat} {w w' : World} (hs : Saf w p b) (h : KW p w w') : Saf w' p b := by
  have e := h.saf hs
  refine ⟨by have := hs.1; have := h.size; omega, ?_⟩
  rcases hs.2 with hb | ⟨hb, hn⟩
  · exact .inl hb
  · exact .inr ⟨hb, fun c fz => by rw [e]; exact hn c fz⟩
theorem Saf.low {w : World} {p b : Nat} (hb : b < p) (hw : b < w.heap.size) : Saf w p b := ⟨hw, .inl hb⟩
theorem Saf.typed {w : World} {p b : Nat} {c : Array Value} {t : TypeId} {fz : Nat × Nat} (h : w.heap[b]? = some (.cells c t fz)) (hb : b ≠ p) (ht : t ≠ 5) : Saf w p b :=
  ⟨(Array.getElem?_eq_some_iff.1 h).1, .inr ⟨hb, fun c' fz' e => by rw [h] at e; injection e with e; injection e with _ e; exact ht e⟩⟩
theorem KW.typed {p b : Nat} {w w' : World} {c : Array Value} {t : TypeId} {fz : Nat × Nat} (h : KW p w w') (hc : w.heap[b]? = some (.cells c t fz)) (hb : b ≠ p) (ht : t ≠ 5) : w'.heap[b]? = some (.cells c t fz) :=
  (h.saf (Saf.typed hc hb ht)).trans hc
/-- a row that a writer at block p leaves as it is -/
def SlK (w : World) (p : Nat) (A : Option Addr) (n c : Nat) (xs : List Value) : Prop := Sl w A n c xs ∧ (xs = [] ∨ ∃ ad, A = some ad ∧ Saf w p ad.block)
theorem SlK.kw {w w' : World} {p : Nat} {A : Option Addr} {n c : Nat} {xs : List Value} (h : SlK w p A n c xs) (k : KW p w w') : SlK w' p A n c xs := by
  refine ⟨⟨h.1.len, h.1.cap, h.1.top, ?_⟩, ?_⟩
  · rcases h.2 with e | ⟨ad, rfl, hs⟩
    · exact .inl e
    · rcases h.1.lies with e | ⟨ad2, e, hc⟩
      · exact .inl e
      · injection e with e
        subst e
        exact .inr ⟨_, rfl, fun j v hv => by
          rw [← hc j v hv]
          apply World.cell?_of_block
          rw [blk_add]
          exact k.saf hs⟩
  · rcases h.2 with e | ⟨ad, rfl, hs⟩
    · exact .inl e
    · exact .inr ⟨ad, rfl, hs.kw k⟩
theorem SlK.low {w : World} {p : Nat} {A : Option Addr} {n c : Nat} {xs : List Value} (h : Sl w A n c xs) (hp : w.heap.size ≤ p) : SlK w p A n c xs := by
  refine ⟨h, ?_⟩
  rcases h.lies with e | ⟨ad, rfl, hc⟩
  · exact .inl e
  · by_cases hx : xs = []
    · exact .inl hx
    · have := h.lies.blk rfl hx
      exact .inr ⟨ad, rfl, Saf.low (by omega) this⟩
theorem cell_of {w : World} {b : Nat} {cs : Array Value} {t : TypeId} {fz : Nat × Nat} (h : w.heap[b]? = some (.cells cs t fz)) (j : Nat) : w.cell? ⟨b, j, none⟩ = cs[j]? := by
  unfold World.cell?; simp [h]
theorem frz_of {w : World} {b : Nat} {cs : Array Value} {t : TypeId} (h : w.heap[b]? = some (.cells cs t (0, 0))) (j : Nat) : w.frozen? ⟨b, j, none⟩ = false := by
  unfold World.frozen?; simp [h]
theorem WR.cell {w : World} {p : Nat} {l : List UInt8} (h : WR w p l) : ∃ A c, w.cell? ⟨p, 0, none⟩ = some (.slice A l.length c) ∧ w.frozen? ⟨p, 0, none⟩ = false ∧ Ow w (p + 1) 5 1 A l.length c (bv l) ∧ p < w.heap.size := by
  obtain ⟨A, c, h1, h2⟩ := h
  exact ⟨A, c, by rw [cell_of h1]; rfl, frz_of h1 0, h2, (Array.getElem?_eq_some_iff.1 h1).1⟩
theorem WR.bit {w : World} {p : Nat} {l : List UInt8} (h : WR w p l) : p < w.heap.size := by
  obtain ⟨A, c, h1, h2⟩ := h; exact (Array.getElem?_eq_some_iff.1 h1).1
/-- what was not the writer's leaves it -/
theorem WR.below {w w' : World} {p : Nat} {l : List UInt8} (h : WR w p l) (hb : Below w.heap.size w w') : WR w' p l := by
  obtain ⟨A, c, h1, h2⟩ := h
  exact ⟨A, c, (hb.block _ (Array.getElem?_eq_some_iff.1 h1).1).trans h1, h2.below hb⟩
theorem WR.alloc {w : World} {p : Nat} {l : List UInt8} (h : WR w p l) (o : Obj) : WR (w.alloc o) p l := h.below ((Below.refl _ w).alloc (Nat.le_refl _) o)
theorem WR.drew {w : World} {p : Nat} {l : List UInt8} (h : WR w p l) : WR w.drew p l := h
theorem WR.new (w : World) : WR (w.alloc (.cells #[.slice none 0 0] 126)) w.heap.size [] := ⟨none, 0, heap_alloc_new _ _, Ow.nil _ _ _ _⟩
/-- an append onto the writer's row, and the row laid back -/
theorem WR.app {w w1 : World} {p c c' : Nat} {A A' : Option Addr} {l b : List UInt8} (h1 : w.heap[p]? = some (.cells #[.slice A l.length c] 126 (0, 0))) (hO : Ow w (p + 1) 5 1 A l.length c (bv l))
    (h2 : Ow w1 (p + 1) 5 1 A' (l.length + b.length) c' (bv l ++ bv b)) (hg : w.grownBy w1 (Value.slice A l.length c).ownBlock) (hb : Below (p + 1) w w1) :
    WR (w1.setCell ⟨p, 0, none⟩ (.slice A' (l.length + b.length) c')) p (l ++ b) ∧ KW p w (w1.setCell ⟨p, 0, none⟩ (.slice A' (l.length + b.length) c')) := by
  have h3 : w1.heap[p]? = some (.cells #[.slice A l.length c] 126 (0, 0)) := (hb.block p (by omega)).trans h1
  refine ⟨⟨A', c', ?_, ?_⟩, ?_, ?_⟩
  · rw [List.length_append]
    simp only [World.setCell, Array.getElem?_modify, if_true, h3, Option.map_some]
    rfl
  · rw [List.length_append, bv_append]
    obtain ⟨hl, hv | ⟨g, cap, cur, hv, hg2, hh, r⟩⟩ := h2
    · exact ⟨hl, .inl hv⟩
    · exact ⟨hl, .inr ⟨g, cap, cur, hv, hg2, (Below.heap_setCell _ _ _ _ (by show _ ≠ _; simp; omega)).trans hh, r⟩⟩
  · exact (hb.mono (Nat.le_succ p)).setCell (p := ⟨p, 0, none⟩) (Nat.le_refl p) _
  · exact ((Lib.OthersKept.refl 5 (some p) w).grown hg (Lib.ownsRow_kind hO)).setCell _ rfl _
end Go.Proofs.Ytjebmmmjjiomfaa
