/- An argument that is one step, opened. -/
import Derived.Test.YtejoiamdhjhjhaaArgs
namespace Go.Proofs.Ytejoiamdhjhjhaa
open Go.RowKit Go.ChangeShapes Go.WideShapes Go.Deep
section
variable {H : Type} {enc : TypeId × Value → H} {w : World}
theorem open_stv {n : Nat} {cs : Array Value} {x : DataW H × List MemPlace} (hc : cs.size = Try.prog.cellsOf 31) (h : DataW.trod enc Try.prog w 0 (fun _ => true) true n 31 (Value.agg cs).cells.toList = some x) :
    ∃ s : St, Value.agg cs = .agg #[.int .i64 s.d, .int .i64 s.who, .int .i64 s.of] ∧ StWf s := by
  obtain ⟨y0, y1, y2, k, _, _, h0, h1, h2⟩ := trod_struct3 Try.underlying31 h
  rw [c31] at hc
  obtain ⟨v0, v1, v2, rfl⟩ : ∃ v0 v1 v2, cs = #[v0, v1, v2] := ⟨cs[0], cs[1], cs[2], by apply Array.ext' ; rcases cs with ⟨l⟩; match l, hc with | [a, b, c], _ => rfl⟩
  rw [c3] at h0 h1 h2
  obtain ⟨z0, rfl, w0⟩ := one_int (v := v0) (by simpa [Value.cells] using h0)
  obtain ⟨z1, rfl, w1⟩ := one_int (v := v1) (by simpa [Value.cells] using h1)
  obtain ⟨z2, rfl, w2⟩ := one_int (v := v2) (by simpa [Value.cells] using h2)
  exact ⟨⟨z0, z1, z2⟩, rfl, w0, w1, w2⟩
end
end Go.Proofs.Ytejoiamdhjhjhaa
