/- The laws' welcomes opened. -/
import Derived.Test.YtjebmmmjjiomfaaCArgs
import Derived.Test.YtjebmmmjjiomfaaCWelW
namespace Go.Proofs.Ytjebmmmjjiomfaa
open Go.RowKit Go.ChangeShapes Go.WideShapes Go.Deep

section
variable {H : Type} {enc : TypeId × Value → H} {w : World}
set_option maxRecDepth 100000 in
theorem open_welcomev {n : Nat} {vs : List Value} {x : DataW H × List MemPlace} (hlen : vs.length = 10) (h : DataW.trod enc Try.prog w 0 (fun _ => true) true n 58 vs = some x) :
    ∃ (A : Option Addr) (m c : Nat) (y : WM), vs = (wc y A m c).toList ∧ Ts w A m c y.tree ∧ szT y.tree + 1 ≤ Rows.uptoBulk x.1 := by
  obtain ⟨xs, n', rfl, hx0, hl, hsz, hf⟩ := DataW.trod_struct Try.underlying58 h
  match vs, hlen with
  | [v0, v1, v2, v3, v4, v5, v6, v7, v8, v9], _ =>
    have hx : ∀ i, i < 10 → ∃ y, xs[i]? = some y := fun i hi => ⟨_, List.getElem?_eq_getElem (by rw [hsz]; exact hi)⟩
    have s3 : Try.prog.cellsOf 3 = 1 := by kernel_rfl
    have s49 : Try.prog.cellsOf 49 = 1 := by kernel_rfl
    obtain ⟨y0, g0⟩ := hx 0 (by omega); obtain ⟨y1, g1⟩ := hx 1 (by omega); obtain ⟨y2, g2⟩ := hx 2 (by omega); obtain ⟨y3, g3⟩ := hx 3 (by omega); obtain ⟨y4, g4⟩ := hx 4 (by omega)
    obtain ⟨y5, g5⟩ := hx 5 (by omega); obtain ⟨y6, g6⟩ := hx 6 (by omega); obtain ⟨y7, g7⟩ := hx 7 (by omega); obtain ⟨y8, g8⟩ := hx 8 (by omega); obtain ⟨y9, g9⟩ := hx 9 (by omega)
    have t0 : DataW.trod enc Try.prog w 0 (fun _ => true) true n' 3 (([v0, v1, v2, v3, v4, v5, v6, v7, v8, v9].drop 0).take (Try.prog.cellsOf 3)) = some y0 := (hf 0 _ rfl).trans g0
    have t1 : DataW.trod enc Try.prog w 0 (fun _ => true) true n' 3 (([v0, v1, v2, v3, v4, v5, v6, v7, v8, v9].drop 1).take (Try.prog.cellsOf 3)) = some y1 := (hf 1 _ rfl).trans g1
    have t2 : DataW.trod enc Try.prog w 0 (fun _ => true) true n' 3 (([v0, v1, v2, v3, v4, v5, v6, v7, v8, v9].drop 2).take (Try.prog.cellsOf 3)) = some y2 := (hf 2 _ rfl).trans g2
    have t3 : DataW.trod enc Try.prog w 0 (fun _ => true) true n' 3 (([v0, v1, v2, v3, v4, v5, v6, v7, v8, v9].drop 3).take (Try.prog.cellsOf 3)) = some y3 := (hf 3 _ rfl).trans g3
    have t4 : DataW.trod enc Try.prog w 0 (fun _ => true) true n' 49 (([v0, v1, v2, v3, v4, v5, v6, v7, v8, v9].drop 4).take (Try.prog.cellsOf 49)) = some y4 := (hf 4 _ rfl).trans g4
    have t5 : DataW.trod enc Try.prog w 0 (fun _ => true) true n' 3 (([v0, v1, v2, v3, v4, v5, v6, v7, v8, v9].drop 5).take (Try.prog.cellsOf 3)) = some y5 := (hf 5 _ rfl).trans g5
    have t6 : DataW.trod enc Try.prog w 0 (fun _ => true) true n' 3 (([v0, v1, v2, v3, v4, v5, v6, v7, v8, v9].drop 6).take (Try.prog.cellsOf 3)) = some y6 := (hf 6 _ rfl).trans g6
    have t7 : DataW.trod enc Try.prog w 0 (fun _ => true) true n' 3 (([v0, v1, v2, v3, v4, v5, v6, v7, v8, v9].drop 7).take (Try.prog.cellsOf 3)) = some y7 := (hf 7 _ rfl).trans g7
    have t8 : DataW.trod enc Try.prog w 0 (fun _ => true) true n' 3 (([v0, v1, v2, v3, v4, v5, v6, v7, v8, v9].drop 8).take (Try.prog.cellsOf 3)) = some y8 := (hf 8 _ rfl).trans g8
    have t9 : DataW.trod enc Try.prog w 0 (fun _ => true) true n' 3 (([v0, v1, v2, v3, v4, v5, v6, v7, v8, v9].drop 9).take (Try.prog.cellsOf 3)) = some y9 := (hf 9 _ rfl).trans g9
    rw [s3] at t0 t1 t2 t3 t5 t6 t7 t8 t9
    rw [s49] at t4
    obtain ⟨z0, rfl⟩ := one_int6 (v := v0) (by simpa using t0)
    obtain ⟨z1, rfl⟩ := one_int6 (v := v1) (by simpa using t1)
    obtain ⟨z2, rfl⟩ := one_int6 (v := v2) (by simpa using t2)
    obtain ⟨z3, rfl⟩ := one_int6 (v := v3) (by simpa using t3)
    obtain ⟨A, m, c, t, ht, hT, hb⟩ := open_nodes t4
    obtain rfl : v4 = .slice A m c := by simpa using ht
    obtain ⟨z5, rfl⟩ := one_int6 (v := v5) (by simpa using t5)
    obtain ⟨z6, rfl⟩ := one_int6 (v := v6) (by simpa using t6)
    obtain ⟨z7, rfl⟩ := one_int6 (v := v7) (by simpa using t7)
    obtain ⟨z8, rfl⟩ := one_int6 (v := v8) (by simpa using t8)
    obtain ⟨z9, rfl⟩ := one_int6 (v := v9) (by simpa using t9)
    refine ⟨A, m, c, ⟨z0, z1, z2, z3, t, z5, z6, z7, z8, z9⟩, rfl, hT, ?_⟩
    rw [hx0]
    have hm := bulk_mem (d := y4.1) (l := xs.map (·.1)) (List.mem_map.2 ⟨y4, List.mem_of_getElem? g4, rfl⟩)
    show szT t + 1 ≤ Rows.uptoBulkAll _ + 1
    omega
theorem open_welcome {n : Nat} {cs : Array Value} {x : DataW H × List MemPlace} (hc : cs.size = Try.prog.cellsOf 58) (h : DataW.trod enc Try.prog w 0 (fun _ => true) true n 58 (Value.agg cs).cells.toList = some x) :
    ∃ (A : Option Addr) (m c : Nat) (y : WM), Value.agg cs = wv y A m c ∧ Ts w A m c y.tree ∧ szT y.tree + 1 ≤ Rows.uptoBulk x.1 := by
  have h10 : cs.size = 10 := hc.trans (by kernel_rfl)
  have h' : DataW.trod enc Try.prog w 0 (fun _ => true) true n 58 cs.toList = some x := h
  obtain ⟨A, m, c, y, h1, h2, h3⟩ := open_welcomev (by simpa using h10) h'
  exact ⟨A, m, c, y, by unfold wv; congr 1; exact Array.ext' h1, h2, h3⟩
end
end Go.Proofs.Ytjebmmmjjiomfaa
