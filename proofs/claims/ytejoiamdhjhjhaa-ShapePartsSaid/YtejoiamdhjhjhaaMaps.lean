/- A map[int]bool and a map[int]int that the call owns, as functions of the key. -/
import Derived.Test.YtejoiamdhjhjhaaBase2
import Derived.Test.YtejoiamdhjhjhaaChecked
import Derived.Maps.OwnOps
import Derived.Maps.OwnSet
import Derived.Maps.Views
namespace Go.Proofs.Ytejoiamdhjhjhaa
open Go.RowKit

def Wf (k : Int) : Prop := -9223372036854775808 ≤ k ∧ k ≤ 9223372036854775807
theorem Wf.lit {k : Int} (h : Wf k) : (Lit.int .i64 k).wf = true := by
  unfold Wf at h
  simp [Lit.wf, IntKind.min, IntKind.max, IntKind.signed, IntKind.bits]
  omega
theorem K3 : Maps.Keyed Try.prog 3 := Maps.int_keyed Try.underlying3
theorem key3 {k : Int} (h : Wf k) : keyOf Try.prog 3 (.int .i64 k) = some (.int .i64 k) := Maps.keyOf_int_mk Try.underlying3 h.lit
def MB (w : World) (b n : Nat) (f : Int → Bool) : Prop := ∃ D : DataW Unit, w.ownsMap Try.prog 3 (plainElem Try.prog 4) b n D ∧ Maps.IsMap D ∧ ∀ k, Wf k → D.atKey (.int .i64 k) (.lit (.bool false)) = .lit (.bool (f k))
def MI (w : World) (b n : Nat) (f : Int → Int) : Prop := ∃ D : DataW Unit, w.ownsMap Try.prog 3 (plainElem Try.prog 3) b n D ∧ Maps.IsMap D ∧ ∀ k, Wf k → D.atKey (.int .i64 k) (.lit (.int .i64 0)) = .lit (.int .i64 (f k))
theorem bool_inv {v : Value} {z : Bool} {ps : List MemPlace} (h : plainElem (H := Unit) Try.prog 4 v = some (.lit (.bool z), ps)) : v = .bool z := by
  unfold plainElem at h
  rw [Try.underlying4] at h
  cases v <;> simp at h
  rw [h.1]
theorem MB.new (w : World) : MB (w.alloc (.map #[] 0)) w.heap.size 0 (fun _ => false) :=
  ⟨_, World.ownsMap_made w Try.prog 3 _, ⟨_, rfl⟩, fun _ _ => rfl⟩
theorem MI.new (w : World) : MI (w.alloc (.map #[] 0)) w.heap.size 0 (fun _ => 0) :=
  ⟨_, World.ownsMap_made w Try.prog 3 _, ⟨_, rfl⟩, fun _ _ => rfl⟩
theorem MB.kept {w w' : World} {b n : Nat} {f : Int → Bool} {row : Option Nat} (h : MB w b n f) (hg : w.grownBy w' row) (hne : some b ≠ row) : MB w' b n f :=
  let ⟨D, h1, h2, h3⟩ := h; ⟨D, h1.kept hg hne, h2, h3⟩
theorem MI.kept {w w' : World} {b n : Nat} {f : Int → Int} {row : Option Nat} (h : MI w b n f) (hg : w.grownBy w' row) (hne : some b ≠ row) : MI w' b n f :=
  let ⟨D, h1, h2, h3⟩ := h; ⟨D, h1.kept hg hne, h2, h3⟩
theorem MB.lt {w : World} {b n : Nat} {f : Int → Bool} (h : MB w b n f) : b < w.heap.size := let ⟨_, h1, _⟩ := h; h1.lt
theorem MI.lt {w : World} {b n : Nat} {f : Int → Int} (h : MI w b n f) : b < w.heap.size := let ⟨_, h1, _⟩ := h; h1.lt
/-- another world with the same block -/
theorem MB.block {w w' : World} {b n : Nat} {f : Int → Bool} (h : MB w b n f) (hb : w'.heap[b]? = w.heap[b]?) : MB w' b n f := by
  obtain ⟨D, ⟨es, clock, e1, r⟩, h2, h3⟩ := h
  exact ⟨D, ⟨es, clock, hb.trans e1, r⟩, h2, h3⟩
theorem MI.block {w w' : World} {b n : Nat} {f : Int → Int} (h : MI w b n f) (hb : w'.heap[b]? = w.heap[b]?) : MI w' b n f := by
  obtain ⟨D, ⟨es, clock, e1, r⟩, h2, h3⟩ := h
  exact ⟨D, ⟨es, clock, hb.trans e1, r⟩, h2, h3⟩
theorem MB.below {w w' : World} {b n : Nat} {f : Int → Bool} {B : Nat} (h : MB w b n f) (hb : Below B w w') (hB : b < B) : MB w' b n f := h.block (hb.block b hB)
theorem MI.below {w w' : World} {b n : Nat} {f : Int → Int} {B : Nat} (h : MI w b n f) (hb : Below B w w') (hB : b < B) : MI w' b n f := h.block (hb.block b hB)
theorem MB.alloc {w : World} {b n : Nat} {f : Int → Bool} (h : MB w b n f) (o : Obj) : MB (w.alloc o) b n f := h.block (Below.heap_alloc w o b h.lt)
theorem MI.alloc {w : World} {b n : Nat} {f : Int → Int} (h : MI w b n f) (o : Obj) : MI (w.alloc o) b n f := h.block (Below.heap_alloc w o b h.lt)
theorem MI.set {w : World} {b n : Nat} {f : Int → Int} (h : MI w b n f) {a : Addr} (ha : b ≠ a.block) (u : Value) : MI (w.setCell a u) b n f := h.block (Below.heap_setCell w a u b ha)
theorem MB.look {w : World} {b n : Nat} {f : Int → Bool} (h : MB w b n f) {k : Int} (hk : Wf k) : (Instr.lookup 45 (.map (some b)) (.int .i64 k) false).run Try.prog w = .ok (.bool (f k)) w := by
  obtain ⟨D, h1, _, h3⟩ := h
  obtain ⟨v, ps, hrun, hv⟩ := h1.lookup K3 Try.underlying45 (Try.zeroValue4 w) (plainElem_bool Try.underlying4 false) (key3 hk)
  rw [h3 k hk] at hv
  rw [hrun, bool_inv hv]
theorem MI.look {w : World} {b n : Nat} {f : Int → Int} (h : MI w b n f) {k : Int} (hk : Wf k) : (Instr.lookup 28 (.map (some b)) (.int .i64 k) false).run Try.prog w = .ok (.int .i64 (f k)) w := by
  obtain ⟨D, h1, _, h3⟩ := h
  obtain ⟨c, hrun, hc, _⟩ := h1.lookup_int K3 Try.underlying28 Try.underlying3 (Try.zeroValue3 w) (key3 hk)
  rw [h3 k hk] at hc
  injection hc with hc
  injection hc with _ hc
  rw [hrun, hc]
theorem MB.put {w' : World} {b n : Nat} {f : Int → Bool} {D : DataW Unit} (h2 : Maps.IsMap D) (h3 : ∀ k, Wf k → D.atKey (.int .i64 k) (.lit (.bool false)) = .lit (.bool (f k))) {k : Int} (v : Bool)
    (h : w'.ownsMap Try.prog 3 (plainElem Try.prog 4) b n (D.put (.int .i64 k) (.lit (.bool v)))) : MB w' b n (fun j => if j = k then v else f j) := by
  refine ⟨_, h, h2.put _ _, fun j hj => ?_⟩
  simp only
  by_cases e : j = k
  · subst e; rw [if_pos rfl]; exact Maps.atKey_put_same h2 (show WideAt.IsKeyLit (.int .i64 j) from trivial) _ _
  · rw [if_neg e, Maps.atKey_put_other (fun q => e (by injection q))]; exact h3 j hj
theorem MI.put {w' : World} {b n : Nat} {f : Int → Int} {D : DataW Unit} (h2 : Maps.IsMap D) (h3 : ∀ k, Wf k → D.atKey (.int .i64 k) (.lit (.int .i64 0)) = .lit (.int .i64 (f k))) {k : Int} (v : Int)
    (h : w'.ownsMap Try.prog 3 (plainElem Try.prog 3) b n (D.put (.int .i64 k) (.lit (.int .i64 v)))) : MI w' b n (fun j => if j = k then v else f j) := by
  refine ⟨_, h, h2.put _ _, fun j hj => ?_⟩
  simp only
  by_cases e : j = k
  · subst e; rw [if_pos rfl]; exact Maps.atKey_put_same h2 (show WideAt.IsKeyLit (.int .i64 j) from trivial) _ _
  · rw [if_neg e, Maps.atKey_put_other (fun q => e (by injection q))]; exact h3 j hj
/-- 'm[k] = v' at the operation -/
theorem wpList_putB {w : World} {ops : Array Oper} {rest : List Oper} {o : Oper} {a : Act} {Q : Exit → Act → World → Prop}
    (hg : o.guard = none) (m x v : Operand) (hop : o.op = Op.mapUpdate 45 m x v) {b n : Nat} {f : Int → Bool} (hm : a.eval m = .map (some b)) (hown : MB w b n f) (hn : n < maxLen) {k : Int} {z : Bool}
    (hx : a.eval x = .int .i64 k) (hv : a.eval v = .bool z) (hk : Wf k)
    (hK : ∀ w', MB w' b (n + 1) (fun j => if j = k then z else f j) → w.grownBy w' (some b) → wpList Try.prog ops Q rest (a.put o.dst undef) w') : wpList Try.prog ops Q (o :: rest) a w := by
  obtain ⟨D, h1, h2, h3⟩ := hown
  exact wpList_mapUpdate_own w hg m x v 45 hop 3 4 K3 Try.underlying45 _ b n D hm h1 hn _ _ _ hx hv (key3 hk) _ [] (plainElem_bool Try.underlying4 z) fun w' r1 r2 => hK w' (MB.put h2 h3 z r1) r2
theorem wpList_putI {w : World} {ops : Array Oper} {rest : List Oper} {o : Oper} {a : Act} {Q : Exit → Act → World → Prop}
    (hg : o.guard = none) (m x v : Operand) (hop : o.op = Op.mapUpdate 28 m x v) {b n : Nat} {f : Int → Int} (hm : a.eval m = .map (some b)) (hown : MI w b n f) (hn : n < maxLen) {k z : Int}
    (hx : a.eval x = .int .i64 k) (hv : a.eval v = .int .i64 z) (hk : Wf k) (hz : Wf z)
    (hK : ∀ w', MI w' b (n + 1) (fun j => if j = k then z else f j) → w.grownBy w' (some b) → wpList Try.prog ops Q rest (a.put o.dst undef) w') : wpList Try.prog ops Q (o :: rest) a w := by
  obtain ⟨D, h1, h2, h3⟩ := hown
  exact wpList_mapUpdate_own w hg m x v 28 hop 3 3 K3 Try.underlying28 _ b n D hm h1 hn _ _ _ hx hv (key3 hk) _ [] (plainElem_int Try.underlying3 hz.lit) fun w' r1 r2 => hK w' (MI.put h2 h3 z r1) r2
end Go.Proofs.Ytejoiamdhjhjhaa
