/- A map[string]int that the call owns, as a function of the key's bytes. -/
import Derived.Test.YthbfaledmoobjaaDoorBase3
import Derived.Test.YthbfaledmoobjaaDoorChecked
import Derived.Maps.OwnOps
import Derived.Maps.OwnSet
import Derived.Maps.Views
import Derived.StringKeys
namespace Go.Proofs.YthbfaledmoobjaaDoor
open Go.RowKit Go.WideMaps

theorem K9 : Maps.Keyed Tryd.prog 9 := Maps.string_keyed Tryd.underlying9
def MS (w : World) (b n : Nat) (F : List UInt8 → Option Int) : Prop := ∃ D : DataW Unit, w.ownsMap Tryd.prog 9 (plainElem Tryd.prog 3) b n D ∧ Maps.IsMap D ∧
  ∀ k, Maps.has D (.string k) = (F k).isSome ∧ D.atKey (.string k) (.lit (.int .i64 0)) = .lit (.int .i64 ((F k).getD 0))
theorem MS.new (w : World) : MS (w.alloc (.map #[] 0)) w.heap.size 0 (fun _ => none) :=
  ⟨_, World.ownsMap_made w Tryd.prog 9 _, ⟨_, rfl⟩, fun _ => ⟨rfl, rfl⟩⟩
theorem MS.lt {w : World} {b n : Nat} {F : List UInt8 → Option Int} (h : MS w b n F) : b < w.heap.size := let ⟨_, h1, _⟩ := h; h1.lt
theorem MS.block {w w' : World} {b n : Nat} {F : List UInt8 → Option Int} (h : MS w b n F) (hb : w'.heap[b]? = w.heap[b]?) : MS w' b n F := by
  obtain ⟨D, ⟨es, clock, e1, r⟩, h2, h3⟩ := h
  exact ⟨D, ⟨es, clock, hb.trans e1, r⟩, h2, h3⟩
theorem MS.isMap {w : World} {b n : Nat} {F : List UInt8 → Option Int} (h : MS w b n F) : ∃ es clock, w.heap[b]? = some (.map es clock) := by
  obtain ⟨D, ⟨es, clock, e1, r⟩, h2, h3⟩ := h
  exact ⟨es, clock, e1⟩
theorem MS.look {w : World} {b n : Nat} {F : List UInt8 → Option Int} (h : MS w b n F) {s : ByteArray} (hk : s.size ≤ maxLen) :
    (Instr.lookup 51 (.map (some b)) (.string s) true).run Tryd.prog w = .ok (.tuple #[.int .i64 ((F s.data.toList).getD 0), .bool (F s.data.toList).isSome]) w := by
  obtain ⟨D, h1, _, h3⟩ := h
  obtain ⟨v, ps, hrun, hv⟩ := h1.look_ok K9 Tryd.underlying51 (Tryd.zeroValue3 w) (plainElem_int Tryd.underlying3 (by decide)) (keyOf_string_mk Tryd.underlying9 hk)
  obtain ⟨c, rfl, hc, _⟩ := plainElem_int_inv Tryd.underlying3 hv
  have hc := congrArg Prod.fst hc
  simp only [(h3 s.data.toList).2] at hc
  injection hc with hc
  injection hc with _ hc
  rw [hrun, (h3 s.data.toList).1, hc]
theorem MS.put {w : World} {b n : Nat} {F : List UInt8 → Option Int} (h : MS w b n F) (hn : n < maxLen) {s : ByteArray} (hk : s.size ≤ maxLen) {z : Int} (hz : (Lit.int .i64 z).wf = true) :
    ∃ w', (Instr.mapUpdate 51 (.map (some b)) (.string s) (.int .i64 z)).run Tryd.prog w = .ok () w' ∧ MS w' b (n + 1) (fun k => if k = s.data.toList then some z else F k) ∧ w.mapTurned w' b := by
  obtain ⟨D, h1, h2, h3⟩ := h
  obtain ⟨w', hr, ho, ht⟩ := h1.store K9 Tryd.underlying51 hn (val := .int .i64 z) (keyOf_string_mk Tryd.underlying9 hk) (plainElem_int Tryd.underlying3 hz)
  refine ⟨w', hr, ⟨_, ho, h2.put _ _, fun k => ?_⟩, ht⟩
  have hkl : WideAt.IsKeyLit (Lit.string s.data.toList) := trivial
  by_cases e : k = s.data.toList
  · subst e
    simp only [if_pos]
    exact ⟨Maps.has_put_same h2 hkl _, Maps.atKey_put_same h2 hkl _ _⟩
  · simp only [if_neg e]
    have hne : Lit.string k ≠ Lit.string s.data.toList := fun q => e (by injection q)
    rw [Maps.has_put_other hne, Maps.atKey_put_other hne]
    exact h3 k
end Go.Proofs.YthbfaledmoobjaaDoor
