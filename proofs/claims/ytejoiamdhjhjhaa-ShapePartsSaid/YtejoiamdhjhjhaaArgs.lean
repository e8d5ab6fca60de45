/- An argument that is a slice of steps, opened. -/
import Derived.Test.YtejoiamdhjhjhaaCanon
import Derived.ProofKit
import Derived.OpenShut
import Derived.SizedLaws
import Derived.Deep.Slices
import Derived.Deep.Strs
namespace Go.Proofs.Ytejoiamdhjhjhaa
open Go.RowKit Go.ChangeShapes Go.WideShapes Go.Deep

theorem add_one' (p : Addr) (j : Nat) : p.add (j + 1) = ⟨p.block, p.off + (j + 1), none⟩ := by unfold Addr.add; simp
section
variable {H : Type} {enc : TypeId × Value → H} {w : World}
theorem wf_inv {z : Int} (h : (Lit.int .i64 z).wf = true) : Wf z := by
  simp [Lit.wf, IntKind.min, IntKind.max, IntKind.signed, IntKind.bits] at h
  unfold Wf; omega
theorem one_int {n : Nat} {v : Value} {x : DataW H × List MemPlace} (h : DataW.trod enc Try.prog w 0 (fun _ => true) true n 3 [v] = some x) : ∃ z, v = .int .i64 z ∧ Wf z := by
  obtain ⟨z, h1, _, h3⟩ := DataW.trod_int Try.underlying3 h
  exact ⟨z, by simpa using h1, wf_inv h3⟩
theorem c31 : Try.prog.cellsOf 31 = 3 := by kernel_rfl
theorem c3 : Try.prog.cellsOf 3 = 1 := by kernel_rfl
theorem open_step {n : Nat} {cs : List Value} {x : DataW H × List MemPlace} {p : Addr} (hcs : w.cells? 0 p 3 = some cs) (h : DataW.trod enc Try.prog w 0 (fun _ => true) true n 31 cs = some x) : ∃ s : St, At3 w p s ∧ StWf s := by
  obtain ⟨_, hlen, hcell⟩ := World.cells?_some hcs
  obtain ⟨y0, y1, y2, k, _, _, h0, h1, h2⟩ := trod_struct3 Try.underlying31 h
  match cs, hlen with
  | [v0, v1, v2], _ =>
    rw [c3] at h0 h1 h2
    obtain ⟨z0, rfl, w0⟩ := one_int (v := v0) (by simpa using h0)
    obtain ⟨z1, rfl, w1⟩ := one_int (v := v1) (by simpa using h1)
    obtain ⟨z2, rfl, w2⟩ := one_int (v := v2) (by simpa using h2)
    have e0 := hcell 0 (by omega)
    have e1 := hcell 1 (by omega)
    have e2 := hcell 2 (by omega)
    refine ⟨⟨z0, z1, z2⟩, ⟨?_, ?_, ?_⟩, w0, w1, w2⟩
    · have : p.add 0 = p := by unfold Addr.add; simp
      rw [this] at e0; simpa using e0
    · rw [show (1 : Nat) = 0 + 1 from rfl, add_one'] at e1; simpa using e1
    · rw [show (2 : Nat) = 1 + 1 from rfl, add_one'] at e2; simpa using e2
theorem open_steps {fuel : Nat} {cs : List Value} {x : DataW H × List MemPlace} (h : DataW.trod enc Try.prog w 0 (fun _ => true) true fuel 22 cs = some x) :
    ∃ (A : Option Addr) (n c : Nat) (l : List St), cs = [.slice A n c] ∧ Ss w A n c l ∧ ∀ s ∈ l, StWf s := by
  rcases open_slice Try.underlying22 h with ⟨hcs, _⟩ | ⟨a, len, cap, m, n, D, Pl, hcs, _, hl, hm, hmm, _, hi⟩
  · exact ⟨none, 0, 0, [], hcs, Ss.none w, by simp⟩
  · have hmm' : m = cap := by simpa using hmm
    have inner : ∀ i, ∃ s : St, i < len → At3 w (a.add (i * 3)) s ∧ StWf s := fun i => by
      by_cases hil : i < len
      · obtain ⟨cs', q1, q2⟩ := hi i (by omega)
        rw [c31] at q1
        obtain ⟨s, q3⟩ := open_step q1 q2
        exact ⟨s, fun _ => q3⟩
      · exact ⟨⟨0, 0, 0⟩, fun h => absurd h hil⟩
    obtain ⟨L, hL⟩ := Classical.axiomOfChoice inner
    refine ⟨some a, len, cap, (List.range len).map L, hcs, ⟨by simp, hl, hm, .inr ⟨a, rfl, fun k s hs => ?_⟩⟩, fun s hs => ?_⟩
    · rw [List.getElem?_map] at hs
      by_cases hk : k < len
      · rw [List.getElem?_range hk] at hs
        simp at hs; subst hs
        exact (hL k hk).1
      · rw [List.getElem?_eq_none (by simp; omega)] at hs; simp at hs
    · obtain ⟨i, hi2, rfl⟩ := List.mem_map.1 hs
      exact (hL i (List.mem_range.1 hi2)).2
end
end Go.Proofs.Ytejoiamdhjhjhaa
