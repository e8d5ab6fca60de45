/- The walks of codec.must and codec.try: giving up, and what takes it up again. -/
import Derived.Test.YtjebmmmjjiomfaaTakeB
import Derived.Defers
import Derived.Recover
import Derived.WalkLawsBesides
namespace Go.Proofs.Ytjebmmmjjiomfaa
open Go.RowKit

def badE : PanicEntry := { v := .iface 140 (.agg #[]), recovered := false }
theorem must_ok (w : World) : Calls Try.prog 85 #[.bool true] w fun e w' => e = .returned (.tuple #[]) ∧ w = w' := by
  go_enter Try.func85, Try.ntmps85
  go_wp2_with fail
  go_end0
  exact ⟨rfl, rfl⟩
theorem must_no (w : World) : Calls Try.prog 85 #[.bool false] w fun e w' => e = .panicked [badE] ∧ w = w' := by
  go_enter Try.func85, Try.ntmps85
  go_wp2_with fail
  simp [bodyPost, badE]
theorem run_bad (w : World) : (Instr.typeAssert (.iface 140 (.agg #[])) 20 140 true).run Try.prog w = .ok (.tuple #[.agg #[], .bool true]) w := by
  simp [Instr.typeAssert, run_underlying Try.underlying140]
set_option maxRecDepth 100000 in
theorem take_panicking (p q : Addr) (x y : Int) (w : World) (hp : w.cell? p = some (.int .i64 x)) (hq : w.cell? q = some (.int .i64 y)) (hz : w.frozen? q = false) :
    CallsD Try.prog 116 #[.pointer (some p), .pointer (some q)] (.panicking [badE]) w fun e u' w' =>
      e = .returned (.tuple #[]) ∧ u' = .panicking [{ badE with recovered := true }] ∧ w' = (w.alloc (.cells #[] 140)).setCell q (.int .i64 x) := by
  refine callsD_of_wpS Try.func116 rfl fun c₀ cs hu => ?_
  apply wpS_seq
  apply wpS_region
  simp [wpOpsS, go_sem, recoverD, hu, Try.ntmps116, Exit.thenS, badE]
  have hta := run_bad
  have hp' : ∀ o, (w.alloc o).cell? p = some (.int .i64 x) := fun o => (World.cell?_alloc_lt w o p (World.block_lt_of_cell? _ _ hp)).trans hp
  have hq' : ∀ o, (w.alloc o).cell? q = some (.int .i64 y) := fun o => (World.cell?_alloc_lt w o q (World.block_lt_of_cell? _ _ hq)).trans hq
  have hz' : ∀ o, (w.alloc o).frozen? q = false := fun o => (World.frozen?_of_block (Below.heap_alloc w o q.block (World.block_lt_of_cell? _ _ hq))).trans hz
  refine wpS_of_wp ?_
  go_wp2_with fail
  simp [bodyPostS, results, Try.results116]
theorem take_idle (p q : Addr) (w : World) :
    CallsD Try.prog 116 #[.pointer (some p), .pointer (some q)] .returning w fun e u' w' => e = .returned (.tuple #[]) ∧ u' = .returning ∧ w' = w := by
  refine callsD_of_wpS Try.func116 rfl fun c₀ cs hu => ?_
  apply wpS_seq
  apply wpS_region
  simp [wpOpsS, go_sem, recoverD, hu, Try.ntmps116, Exit.thenS]
  refine wpS_of_wp ?_
  go_wp2_with fail
  cases c₀
  simp_all [bodyPostS, results, Try.results116]
/-- ends by itself, or gives up -/
def EndsD (R Q : World → Prop) (e : Ending) (w' : World) : Prop := (e = .returned (.tuple #[]) ∧ R w') ∨ (e = .panicked [badE] ∧ Q w')
/-- two boxes of numbers behind a world's end -/
def twoW (w : World) (x : Int) : World := (w.alloc (.cells #[.int .i64 x] 24)).alloc (.cells #[.int .i64 0] 24)
/-- the two boxes stand -/
def TwoK (w : World) (x : Int) (w2 : World) : Prop := w2.heap[w.heap.size]? = some (.cells #[.int .i64 x] 24 (0, 0)) ∧ w2.heap[w.heap.size + 1]? = some (.cells #[.int .i64 0] 24 (0, 0))
theorem twoK_start (w : World) (x : Int) : TwoK w x (twoW w x) := by
  constructor
  · unfold twoW
    rw [Below.heap_alloc _ _ _ (by simp)]
    exact heap_alloc_new _ _
  · have := heap_alloc_new (w.alloc (.cells #[.int .i64 x] 24)) (.cells #[.int .i64 0] 24)
    unfold twoW
    simpa using this
theorem try_ok (k : Nat) (cap : Array Value) (x : Int) (w : World) (R Q : World → Prop) (hcf : ∀ (args : Array Value) (w : World), (callFunc k args).run Try.prog w = .ok (.enter k args) w)
    (H : Hid (Calls Try.prog k cap (twoW w x) fun e w' => EndsD R Q e w' ∧ TwoK w x w')) :
    Calls Try.prog 95 #[.int .i64 x, .func (.func k) #[] cap] w fun e w' => ∃ w2, TwoK w x w2 ∧
      ((e = .returned (.int .i64 0) ∧ R w2 ∧ w' = w2.setCell ⟨w.heap.size + 1, 0, none⟩ (.int .i64 0)) ∨
       (e = .returned (.int .i64 x) ∧ Q w2 ∧ w' = (w2.alloc (.cells #[] 140)).setCell ⟨w.heap.size + 1, 0, none⟩ (.int .i64 x))) := by
  have hmf : ∀ (fn : Fn) (first cap : Array Value) (w : World), (Instr.makeFunc fn first cap).run Try.prog w = .ok (.func fn first cap) w := fun _ _ _ _ => rfl
  go_enter_defers Try.func95, Try.ntmps95
  go_wp2_with fail
  refine Calls.mono (show Calls Try.prog k cap (twoW w x) _ from H.out) ?_
  rintro e w2 ⟨hE, hB⟩
  have h0 := hB.1
  have h1 := hB.2
  have c0 : w2.cell? ⟨w.heap.size, 0, none⟩ = some (.int .i64 x) := by unfold World.cell?; simp [h0]
  have c1 : w2.cell? ⟨w.heap.size + 1, 0, none⟩ = some (.int .i64 0) := by unfold World.cell?; simp [h1]
  have z1 : w2.frozen? ⟨w.heap.size + 1, 0, none⟩ = false := by unfold World.frozen?; simp [h1]
  rcases hE with ⟨rfl, hR⟩ | ⟨rfl, hQ⟩
  · go_wp2_with fail
    refine leaves_cons (f := 116) (args := #[.pointer (some ⟨w.heap.size, 0, none⟩), .pointer (some ⟨w.heap.size + 1, 0, none⟩)]) (by simp) (by simp [go_sem]) ?_
    refine (take_idle _ _ _).mono ?_
    rintro e u' w'' ⟨rfl, rfl, rfl⟩
    have c2 : (w2.setCell ⟨w.heap.size + 1, 0, none⟩ (.int .i64 0)).cell? ⟨w.heap.size + 1, 0, none⟩ = some (.int .i64 0) := World.cell?_setCell_same _ _ _ c1
    simp [Leaves, settle, results, Try.results95, go_sem, c2]
    exact ⟨w2, hB, .inl ⟨hR, rfl⟩⟩
  · refine leaves_cons (f := 116) (args := #[.pointer (some ⟨w.heap.size, 0, none⟩), .pointer (some ⟨w.heap.size + 1, 0, none⟩)]) (by simp) (by simp [go_sem]) ?_
    refine (take_panicking _ _ x 0 w2 c0 c1 z1).mono ?_
    rintro e u' w'' ⟨rfl, rfl, rfl⟩
    have c2 : ((w2.alloc (.cells #[] 140)).setCell ⟨w.heap.size + 1, 0, none⟩ (.int .i64 x)).cell? ⟨w.heap.size + 1, 0, none⟩ = some (.int .i64 x) := World.cell?_setCell_same _ _ _ ((World.cell?_alloc_lt w2 _ _ (World.block_lt_of_cell? _ _ c1)).trans c1)
    simp [Leaves, settle, results, Try.results95, go_sem, c2]
    exact ⟨w2, hB, .inr ⟨hQ, rfl⟩⟩
end Go.Proofs.Ytjebmmmjjiomfaa
