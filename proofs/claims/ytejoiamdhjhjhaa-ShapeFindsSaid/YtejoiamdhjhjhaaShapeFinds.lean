/- The given statement ShapeFindsSaid, proved: the walk laid into the row's frame. No condition beyond the statement's own. -/
import Derived.Test.YtejoiamdhjhjhaaRows
import Derived.WalkKit
import Derived.ProofKit
import Derived.OpenShut
import Derived.ShutString
import Derived.ChangeOld
import Derived.Below
import Derived.SizedLaws
import Derived.Test.YtejoiamdhjhjhaaFindsWalk
import Derived.Test.YtejoiamdhjhjhaaArgs
namespace Go.Proofs.Ytejoiamdhjhjhaa.shapeFinds
open Go.ChangeShapes Go.WideShapes Go.ChangeAt Go.RowKit
open Go.ChangeMaps (open_string shut_string)
set_option linter.unusedVariables false

theorem own : ownKnob Try.prog.godebug = none := by kernel_rfl
theorem laidOut : laidOutB Try.prog = true := by kernel_rfl

set_option maxRecDepth 100000 in
theorem lifted (os : Os) (started : os.Started) (H : Type) (enc : TypeId × Value → H) :
    ReturnsInHanded {} Try.checked os 3 .any (Rows.shapeFindsSpec.pre6 enc Try.prog Try.f3 Rows.shapeFindsRow.domain false) (Rows.shapeFindsSpec.post enc Try.prog Try.f3 false true false false) := by
  refine returnsInHanded_of_change_sized (C := Try.checked) own started (by kernel_rfl) Try.func3
    (ChangeSpec.witness6 (enc := enc) (C := Try.checked) false ⟨#[], #[.slice none 0 0, .slice none 0 0], []⟩ 8 (by kernel_rfl) (by kernel_rfl) (by kernel_rfl) (by kernel_rfl)) ?_
  intro W base args ds gs before hval0 hW hcnd hsz0 _
  have hval : ∀ (j : Nat) t v, Try.f3.params[j]? = some t → args[j]? = some v → Value.okWide Try.prog W .any base t v := hval0
  have hsz : (DataW.weightsEach Try.prog (Try.f3.params.toList ++ Rows.shapeFindsSpec.plain.varTypes Try.prog) (ds ++ gs)).all (· ≤ reachBytes) = true := hsz0
  have hW' := hW
  obtain ⟨p, q, hA0, hV, rfl, hfz, hnd⟩ := hW
  have hA : DataW.TrodAll enc Try.prog W 0 (fun _ => true) true Try.f3.params.toList args.toList ds p := hA0
  rw [Try.params3] at hA hval hsz
  obtain ⟨v0, vs0, d0, ds0, p0, q0, hargs, rfl, rfl, h0, r0⟩ := trodAll_cons hA
  obtain ⟨v1, vs1, d1, ds1, p1, q1, rfl, rfl, rfl, h1, r1⟩ := trodAll_cons r0
  obtain ⟨rfl, rfl, rfl⟩ := trodAll_nil r1
  obtain rfl : args = #[v0, v1] := by cases args; simp_all
  obtain ⟨rfl, rfl⟩ := trodVars_none hV
  have k0 := h0
  have lt0 : ∀ x ∈ p0, x.block < W.heap.size := by obtain ⟨m, hm⟩ := k0; exact DataW.trod_lt m _ _ _ hm
  obtain ⟨A0, n0, c0, l0, rfl, s0, f0⟩ : ∃ (A : Option Addr) (n c : Nat) (l : List St), v0 = .slice A n c ∧ Ss W A n c l ∧ ∀ s ∈ l, StWf s := by
    obtain ⟨fuel, hf⟩ := h0
    obtain ⟨A, n, c, l, h1, h2, h3⟩ := open_steps hf
    obtain ⟨a', n', c', rfl⟩ := okWide_slice Try.underlying22 (hval 0 22 v0 rfl rfl)
    exact ⟨A, n, c, l, by simpa [Value.cells] using h1, h2, h3⟩
  have k1 := h1
  have lt1 : ∀ x ∈ p1, x.block < W.heap.size := by obtain ⟨m, hm⟩ := k1; exact DataW.trod_lt m _ _ _ hm
  obtain ⟨A1, n1, c1, l1, rfl, s1, f1⟩ : ∃ (A : Option Addr) (n c : Nat) (l : List St), v1 = .slice A n c ∧ Ss W A n c l ∧ ∀ s ∈ l, StWf s := by
    obtain ⟨fuel, hf⟩ := h1
    obtain ⟨A, n, c, l, h1, h2, h3⟩ := open_steps hf
    obtain ⟨a', n', c', rfl⟩ := okWide_slice Try.underlying22 (hval 1 22 v1 rfl rfl)
    exact ⟨A, n, c, l, by simpa [Value.cells] using h1, h2, h3⟩
  clear hA0 hval0
  refine (findsWalk A0 n0 c0 l0 A1 n1 c1 l1 W s0 (Lib.hid f0) s1 (Lib.hid f1)).mono fun e W' ⟨he, bel⟩ => ?_
  subst he
  exact ⟨_, rfl, _, _, _, [], _, [], hW', trodAll_mk1 (shut_bool Try.underlying4 _), (trodAll_cons_mk (Below.trod laidOut (by kernel_rfl) (of_decide_eq_true (by kernel_rfl)) k0 bel lt0) (trodAll_cons_mk (Below.trod laidOut (by kernel_rfl) (of_decide_eq_true (by kernel_rfl)) k1 bel lt1) trodAll_mk0)), rfl, bel.frame _, fun h => by cases h⟩

theorem over : Rows.shapeFindsRow.holds Try.pinned (OpenSpec.ofChange Rows.shapeFindsSpec) :=
  OpenClaim.holds_of_wide 3 Try.f3 rfl rfl rfl rfl rfl rfl rfl ⟨rfl, rfl, rfl, rfl, rfl⟩ rfl rfl rfl rfl rfl (by kernel_rfl) Try.func3 (by kernel_rfl)
    (of_decide_eq_true (by kernel_rfl)) (by unfold Func.isWrapper; first | (rw [if_pos (by decide +kernel)]; kernel_rfl) | (rw [if_neg (by decide +kernel)]; exact ⟨rfl, rfl⟩))
    (fun os started H enc _ => lifted os started H enc)

theorem proved : Rows.ShapeFindsSaid := over
#print axioms proved
end Go.Proofs.Ytejoiamdhjhjhaa.shapeFinds
