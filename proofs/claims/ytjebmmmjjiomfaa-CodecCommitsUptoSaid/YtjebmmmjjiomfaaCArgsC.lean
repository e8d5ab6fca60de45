/- The laws' commits opened. -/
import Derived.Test.YtjebmmmjjiomfaaCArgs
import Derived.Test.YtjebmmmjjiomfaaCMem
namespace Go.Proofs.Ytjebmmmjjiomfaa
open Go.RowKit Go.ChangeShapes Go.WideShapes Go.Deep

section
variable {H : Type} {enc : TypeId × Value → H} {w : World}
theorem one_bool6 {n : Nat} {v : Value} {x : DataW H × List MemPlace} (h : DataW.trod enc Try.prog w 0 (fun _ => true) true n 4 [v] = some x) : ∃ z, v = .bool z := by
  obtain ⟨z, h1, _⟩ := DataW.trod_bool Try.underlying4 h
  exact ⟨z, by simpa using h1⟩
/-- a slice of things of so many cells, opened -/
theorem open_rows {α : Type} (E : World → α → Addr → Prop) (g : α → Nat) (m : Nat) (t e : TypeId) {S : World → Option Addr → Nat → Nat → List α → Prop} {fuel : Nat} {cs : List Value} {x : DataW H × List MemPlace}
    (a0 : α) (ht : Try.prog.underlying t = some (.slice e)) (hc : Try.prog.cellsOf e = m)
    (hE : ∀ {n : Nat} {cs : List Value} {x : DataW H × List MemPlace} {p : Addr}, w.cells? 0 p m = some cs → DataW.trod enc Try.prog w 0 (fun _ => true) true n e cs = some x → ∃ s : α, E w s p ∧ g s + 1 ≤ Rows.uptoBulk x.1)
    (hS : S = fun w A n c l => Rw E m w A n c l)
    (h : DataW.trod enc Try.prog w 0 (fun _ => true) true fuel t cs = some x) :
    ∃ (A : Option Addr) (n c : Nat) (l : List α), cs = [.slice A n c] ∧ S w A n c l ∧ l.length + (l.map g).sum + 1 ≤ Rows.uptoBulk x.1 := by
  subst hS
  rcases open_slice ht h with ⟨hcs, hx⟩ | ⟨a, len, cap, k, n, D, Pl, hcs, _, hl, hm, hmm, hx, hi⟩
  · exact ⟨none, 0, 0, [], hcs, Rw.none _ _ w, by rw [hx]; simp [Rows.uptoBulk]⟩
  · have hmm' : k = cap := by simpa using hmm
    have inner : ∀ i, ∃ s : α, i < len → E w s (a.add (i * m)) ∧ g s + 1 ≤ Rows.uptoBulk (D i) := fun i => by
      by_cases hil : i < len
      · obtain ⟨cs', q1, q2⟩ := hi i (by omega)
        rw [hc] at q1
        obtain ⟨s, q3, q4⟩ := hE q1 q2
        exact ⟨s, fun _ => ⟨q3, q4⟩⟩
      · exact ⟨a0, fun h => absurd h hil⟩
    obtain ⟨L, hL⟩ := Classical.axiomOfChoice inner
    refine ⟨some a, len, cap, (List.range len).map L, hcs, ⟨by simp, hl, hm, .inr ⟨a, rfl, fun j s hs => ?_⟩⟩, ?_⟩
    · rw [List.getElem?_map] at hs
      by_cases hk : j < len
      · rw [List.getElem?_range hk] at hs
        simp at hs; subst hs
        exact (hL j hk).1
      · rw [List.getElem?_eq_none (by simp; omega)] at hs; simp at hs
    · rw [hx]
      have := bulk_sum (H := H) (fun s : α => g s + 1) ((List.range len).map L) ((List.range len).map D) (by simp) (fun i s d e1 e2 => by
        by_cases hk : i < len
        · rw [List.getElem?_map, List.getElem?_range hk] at e1 e2
          simp at e1 e2
          subst e1 e2
          exact (hL i hk).2
        · rw [List.getElem?_eq_none (by simp; omega)] at e1; simp at e1)
      have hsum : ∀ (l : List α), (l.map fun s => g s + 1).sum = l.length + (l.map g).sum := fun l => by
        induction l with
        | nil => rfl
        | cons a l ih => simp only [List.map_cons, List.sum_cons, List.length_cons, ih]; omega
      rw [hsum] at this
      show _ ≤ Rows.uptoBulkAll ((List.range len).map D) + _ + 1
      omega
set_option maxRecDepth 100000 in
theorem open_pnv {n : Nat} {vs : List Value} {x : DataW H × List MemPlace} (hlen : vs.length = 2) (h : DataW.trod enc Try.prog w 0 (fun _ => true) true n 111 vs = some x) :
    ∃ (s : PN) (B : Option Addr) (m d : Nat), vs = [.int .i64 s.enc, .slice B m d] ∧ Sl w B m d (iv s.seals) ∧ s.seals.length + 1 ≤ Rows.uptoBulk x.1 := by
  obtain ⟨xs, n', rfl, hx0, hl, hsz, hf⟩ := DataW.trod_struct Try.underlying111 h
  have hsz' : xs.length = 2 := hsz
  match vs, hlen, xs, hsz' with
  | [v0, v1], _, [y0, y1], _ =>
    have s3 : Try.prog.cellsOf 3 = 1 := by kernel_rfl
    have s65 : Try.prog.cellsOf 65 = 1 := by kernel_rfl
    have t0 : DataW.trod enc Try.prog w 0 (fun _ => true) true n' 3 (([v0, v1].drop 0).take (Try.prog.cellsOf 3)) = some y0 := hf 0 _ rfl
    have t1 : DataW.trod enc Try.prog w 0 (fun _ => true) true n' 65 (([v0, v1].drop 1).take (Try.prog.cellsOf 65)) = some y1 := hf 1 _ rfl
    rw [s3] at t0
    rw [s65] at t1
    obtain ⟨z0, rfl⟩ := one_int6 (v := v0) (by simpa using t0)
    obtain ⟨B, m, d, u, rfl, hu, hb⟩ := ints6 (v := v1) (by simpa using t1)
    refine ⟨⟨z0, u⟩, B, m, d, rfl, hu, ?_⟩
    rw [hx0]
    show _ ≤ Rows.uptoBulkAll _ + 1
    simp only [List.map_cons, List.map_nil, Rows.uptoBulkAll]
    show u.length + 1 ≤ _
    omega
theorem c111 : Try.prog.cellsOf 111 = 2 := by kernel_rfl
theorem open_pn {n : Nat} {cs : List Value} {x : DataW H × List MemPlace} {p : Addr} (hcs : w.cells? 0 p 2 = some cs) (h : DataW.trod enc Try.prog w 0 (fun _ => true) true n 111 cs = some x) : ∃ s : PN, At2 w s p ∧ s.seals.length + 1 ≤ Rows.uptoBulk x.1 := by
  obtain ⟨_, hlen, hcell⟩ := World.cells?_some hcs
  obtain ⟨s, B, m, d, rfl, hu, hb⟩ := open_pnv hlen h
  have e0 := hcell 0 (by omega); have e1 := hcell 1 (by omega)
  refine ⟨s, ⟨B, m, d, ?_, ?_, hu⟩, hb⟩
  · have : p.add 0 = p := by unfold Addr.add; simp
    rw [this] at e0; simpa using e0
  · rw [show (1 : Nat) = 0 + 1 from rfl, add_one6] at e1; simpa using e1
set_option maxRecDepth 100000 in
theorem open_prv {n : Nat} {vs : List Value} {x : DataW H × List MemPlace} (hlen : vs.length = 10) (h : DataW.trod enc Try.prog w 0 (fun _ => true) true n 109 vs = some x) :
    ∃ (s : PR) (B : Option Addr) (m d : Nat), vs = [.int .i64 s.k, .int .i64 s.from_, .int .i64 s.leaf.k, .int .i64 s.leaf.id, .int .i64 s.leaf.enc, .int .i64 s.leaf.sig, .int .i64 s.leaf.hash, .slice B m d, .int .i64 s.at_, .int .i64 s.term] ∧ Sl w B m d (iv s.leaf.un) ∧ s.leaf.un.length + 1 ≤ Rows.uptoBulk x.1 := by
  obtain ⟨xs, n', rfl, hx0, hl, hsz, hf⟩ := DataW.trod_struct Try.underlying109 h
  have hsz' : xs.length = 5 := hsz
  match vs, hlen, xs, hsz' with
  | [v0, v1, v2, v3, v4, v5, v6, v7, v8, v9], _, [y0, y1, y2, y3, y4], _ =>
    have s3 : Try.prog.cellsOf 3 = 1 := by kernel_rfl
    have s67 : Try.prog.cellsOf 67 = 6 := by kernel_rfl
    have t0 : DataW.trod enc Try.prog w 0 (fun _ => true) true n' 3 (([v0, v1, v2, v3, v4, v5, v6, v7, v8, v9].drop 0).take (Try.prog.cellsOf 3)) = some y0 := hf 0 _ rfl
    have t1 : DataW.trod enc Try.prog w 0 (fun _ => true) true n' 3 (([v0, v1, v2, v3, v4, v5, v6, v7, v8, v9].drop 1).take (Try.prog.cellsOf 3)) = some y1 := hf 1 _ rfl
    have t2 : DataW.trod enc Try.prog w 0 (fun _ => true) true n' 67 (([v0, v1, v2, v3, v4, v5, v6, v7, v8, v9].drop 2).take (Try.prog.cellsOf 67)) = some y2 := hf 2 _ rfl
    have t3 : DataW.trod enc Try.prog w 0 (fun _ => true) true n' 3 (([v0, v1, v2, v3, v4, v5, v6, v7, v8, v9].drop 8).take (Try.prog.cellsOf 3)) = some y3 := hf 3 _ rfl
    have t4 : DataW.trod enc Try.prog w 0 (fun _ => true) true n' 3 (([v0, v1, v2, v3, v4, v5, v6, v7, v8, v9].drop 9).take (Try.prog.cellsOf 3)) = some y4 := hf 4 _ rfl
    rw [s3] at t0 t1 t3 t4
    rw [s67] at t2
    obtain ⟨z0, rfl⟩ := one_int6 (v := v0) (by simpa using t0)
    obtain ⟨z1, rfl⟩ := one_int6 (v := v1) (by simpa using t1)
    obtain ⟨z3, rfl⟩ := one_int6 (v := v8) (by simpa using t3)
    obtain ⟨z4, rfl⟩ := one_int6 (v := v9) (by simpa using t4)
    obtain ⟨s, B, m, d, hv, hu, hb⟩ := open_nodev (vs := [v2, v3, v4, v5, v6, v7]) rfl (by simpa using t2)
    injection hv with a2 hv; injection hv with a3 hv; injection hv with a4 hv; injection hv with a5 hv; injection hv with a6 hv; injection hv with a7 hv
    subst a2 a3 a4 a5 a6 a7
    refine ⟨⟨z0, z1, s, z3, z4⟩, B, m, d, rfl, hu, ?_⟩
    rw [hx0]
    show _ ≤ Rows.uptoBulkAll _ + 1
    simp only [List.map_cons, List.map_nil, Rows.uptoBulkAll]
    show s.un.length + 1 ≤ _
    omega
theorem c109 : Try.prog.cellsOf 109 = 10 := by kernel_rfl
theorem open_pr {n : Nat} {cs : List Value} {x : DataW H × List MemPlace} {p : Addr} (hcs : w.cells? 0 p 10 = some cs) (h : DataW.trod enc Try.prog w 0 (fun _ => true) true n 109 cs = some x) : ∃ s : PR, At10 w s p ∧ s.leaf.un.length + 1 ≤ Rows.uptoBulk x.1 := by
  obtain ⟨_, hlen, hcell⟩ := World.cells?_some hcs
  obtain ⟨s, B, m, d, rfl, hu, hb⟩ := open_prv hlen h
  have e0 := hcell 0 (by omega); have e1 := hcell 1 (by omega); have e2 := hcell 2 (by omega); have e3 := hcell 3 (by omega); have e4 := hcell 4 (by omega); have e5 := hcell 5 (by omega); have e6 := hcell 6 (by omega); have e7 := hcell 7 (by omega); have e8 := hcell 8 (by omega); have e9 := hcell 9 (by omega)
  refine ⟨s, ⟨B, m, d, ?_, ?_, ?_, ?_, ?_, ?_, ?_, ?_, ?_, ?_, hu⟩, hb⟩
  · have : p.add 0 = p := by unfold Addr.add; simp
    rw [this] at e0; simpa using e0
  · rw [show (1 : Nat) = 0 + 1 from rfl, add_one6] at e1; simpa using e1
  · rw [show (2 : Nat) = 1 + 1 from rfl, add_one6] at e2; simpa using e2
  · rw [show (3 : Nat) = 2 + 1 from rfl, add_one6] at e3; simpa using e3
  · rw [show (4 : Nat) = 3 + 1 from rfl, add_one6] at e4; simpa using e4
  · rw [show (5 : Nat) = 4 + 1 from rfl, add_one6] at e5; simpa using e5
  · rw [show (6 : Nat) = 5 + 1 from rfl, add_one6] at e6; simpa using e6
  · rw [show (7 : Nat) = 6 + 1 from rfl, add_one6] at e7; simpa using e7
  · rw [show (8 : Nat) = 7 + 1 from rfl, add_one6] at e8; simpa using e8
  · rw [show (9 : Nat) = 8 + 1 from rfl, add_one6] at e9; simpa using e9
set_option maxRecDepth 100000 in
theorem open_pathv {n : Nat} {vs : List Value} {x : DataW H × List MemPlace} (hlen : vs.length = 7) (h : DataW.trod enc Try.prog w 0 (fun _ => true) true n 70 vs = some x) :
    ∃ (s : TN) (l : List PN) (B : Option Addr) (m d : Nat) (C : Option Addr) (k e : Nat), vs = [.int .i64 s.k, .int .i64 s.id, .int .i64 s.enc, .int .i64 s.sig, .int .i64 s.hash, .slice B m d, .slice C k e] ∧ Sl w B m d (iv s.un) ∧ Ns w C k e l ∧ s.un.length + l.length + (l.map fun p => p.seals.length).sum + 1 ≤ Rows.uptoBulk x.1 := by
  obtain ⟨xs, n', rfl, hx0, hl, hsz, hf⟩ := DataW.trod_struct Try.underlying70 h
  have hsz' : xs.length = 2 := hsz
  match vs, hlen, xs, hsz' with
  | [v0, v1, v2, v3, v4, v5, v6], _, [y0, y1], _ =>
    have s67 : Try.prog.cellsOf 67 = 6 := by kernel_rfl
    have s68 : Try.prog.cellsOf 68 = 1 := by kernel_rfl
    have t0 : DataW.trod enc Try.prog w 0 (fun _ => true) true n' 67 (([v0, v1, v2, v3, v4, v5, v6].drop 0).take (Try.prog.cellsOf 67)) = some y0 := hf 0 _ rfl
    have t1 : DataW.trod enc Try.prog w 0 (fun _ => true) true n' 68 (([v0, v1, v2, v3, v4, v5, v6].drop 6).take (Try.prog.cellsOf 68)) = some y1 := hf 1 _ rfl
    rw [s67] at t0
    rw [s68] at t1
    obtain ⟨s, B, m, d, hv, hu, hb⟩ := open_nodev (vs := [v0, v1, v2, v3, v4, v5]) rfl (by simpa using t0)
    injection hv with a2 hv; injection hv with a3 hv; injection hv with a4 hv; injection hv with a5 hv; injection hv with a6 hv; injection hv with a7 hv
    subst a2 a3 a4 a5 a6 a7
    obtain ⟨C, k, e, l, hv, hn, hb2⟩ := open_rows (H := H) (enc := enc) (w := w) At2 (fun p : PN => p.seals.length) 2 68 111 ⟨0, []⟩ Try.underlying68 c111 (fun h1 h2 => open_pn h1 h2) rfl (cs := [v6]) (by simpa using t1)
    obtain rfl : v6 = .slice C k e := by simpa using hv
    refine ⟨s, l, B, m, d, C, k, e, rfl, hu, hn, ?_⟩
    rw [hx0]
    show _ ≤ Rows.uptoBulkAll _ + 1
    simp only [List.map_cons, List.map_nil, Rows.uptoBulkAll]
    omega
set_option maxRecDepth 100000 in
theorem open_commitv {n : Nat} {vs : List Value} {x : DataW H × List MemPlace} (hlen : vs.length = 13) (h : DataW.trod enc Try.prog w 0 (fun _ => true) true n 72 vs = some x) :
    ∃ (y : CM) (P : CP), vs = (cc y P).toList ∧ CMem w y P ∧ szC y + 1 ≤ Rows.uptoBulk x.1 := by
  obtain ⟨xs, n', rfl, hx0, hl, hsz, hf⟩ := DataW.trod_struct Try.underlying72 h
  have hsz' : xs.length = 7 := hsz
  match vs, hlen, xs, hsz' with
  | [v0, v1, v2, v3, v4, v5, v6, v7, v8, v9, v10, v11, v12], _, [y0, y1, y2, y3, y4, y5, y6], _ =>
    have s3 : Try.prog.cellsOf 3 = 1 := by kernel_rfl
    have s4 : Try.prog.cellsOf 4 = 1 := by kernel_rfl
    have s64 : Try.prog.cellsOf 64 = 1 := by kernel_rfl
    have s70 : Try.prog.cellsOf 70 = 7 := by kernel_rfl
    have t0 : DataW.trod enc Try.prog w 0 (fun _ => true) true n' 3 (([v0, v1, v2, v3, v4, v5, v6, v7, v8, v9, v10, v11, v12].drop 0).take (Try.prog.cellsOf 3)) = some y0 := hf 0 _ rfl
    have t1 : DataW.trod enc Try.prog w 0 (fun _ => true) true n' 3 (([v0, v1, v2, v3, v4, v5, v6, v7, v8, v9, v10, v11, v12].drop 1).take (Try.prog.cellsOf 3)) = some y1 := hf 1 _ rfl
    have t2 : DataW.trod enc Try.prog w 0 (fun _ => true) true n' 64 (([v0, v1, v2, v3, v4, v5, v6, v7, v8, v9, v10, v11, v12].drop 2).take (Try.prog.cellsOf 64)) = some y2 := hf 2 _ rfl
    have t3 : DataW.trod enc Try.prog w 0 (fun _ => true) true n' 4 (([v0, v1, v2, v3, v4, v5, v6, v7, v8, v9, v10, v11, v12].drop 3).take (Try.prog.cellsOf 4)) = some y3 := hf 3 _ rfl
    have t4 : DataW.trod enc Try.prog w 0 (fun _ => true) true n' 70 (([v0, v1, v2, v3, v4, v5, v6, v7, v8, v9, v10, v11, v12].drop 4).take (Try.prog.cellsOf 70)) = some y4 := hf 4 _ rfl
    have t5 : DataW.trod enc Try.prog w 0 (fun _ => true) true n' 3 (([v0, v1, v2, v3, v4, v5, v6, v7, v8, v9, v10, v11, v12].drop 11).take (Try.prog.cellsOf 3)) = some y5 := hf 5 _ rfl
    have t6 : DataW.trod enc Try.prog w 0 (fun _ => true) true n' 3 (([v0, v1, v2, v3, v4, v5, v6, v7, v8, v9, v10, v11, v12].drop 12).take (Try.prog.cellsOf 3)) = some y6 := hf 6 _ rfl
    rw [s3] at t0 t1 t5 t6
    rw [s4] at t3
    rw [s64] at t2
    rw [s70] at t4
    obtain ⟨z0, rfl⟩ := one_int6 (v := v0) (by simpa using t0)
    obtain ⟨z1, rfl⟩ := one_int6 (v := v1) (by simpa using t1)
    obtain ⟨z5, rfl⟩ := one_int6 (v := v11) (by simpa using t5)
    obtain ⟨z6, rfl⟩ := one_int6 (v := v12) (by simpa using t6)
    obtain ⟨A, m, c, ps, hv, hp, hb1⟩ := open_rows (H := H) (enc := enc) (w := w) At10 (fun p : PR => p.leaf.un.length) 10 64 109 ⟨0, 0, nd0, 0, 0⟩ Try.underlying64 c109 (fun h1 h2 => open_pr h1 h2) rfl (cs := [v2]) (by simpa using t2)
    obtain rfl : v2 = .slice A m c := by simpa using hv
    obtain ⟨bb, rfl⟩ := one_bool6 (v := v3) (by simpa using t3)
    obtain ⟨s, l, B, i, d, C, k, e, hv, hu, hn, hb2⟩ := open_pathv (vs := [v4, v5, v6, v7, v8, v9, v10]) rfl (by simpa using t4)
    injection hv with a2 hv; injection hv with a3 hv; injection hv with a4 hv; injection hv with a5 hv; injection hv with a6 hv; injection hv with a7 hv; injection hv with a8 hv
    subst a2 a3 a4 a5 a6 a7 a8
    refine ⟨⟨z0, z1, ps, bb, s, l, z5, z6⟩, ⟨A, m, c, B, i, d, C, k, e⟩, rfl, ⟨hp, hu, hn⟩, ?_⟩
    rw [hx0]
    show szC _ + 1 ≤ Rows.uptoBulkAll _ + 1
    simp only [List.map_cons, List.map_nil, Rows.uptoBulkAll]
    unfold szC; dsimp only
    omega
theorem open_commit {n : Nat} {cs : Array Value} {x : DataW H × List MemPlace} (hc : cs.size = Try.prog.cellsOf 72) (h : DataW.trod enc Try.prog w 0 (fun _ => true) true n 72 (Value.agg cs).cells.toList = some x) :
    ∃ (y : CM) (P : CP), Value.agg cs = cv y P ∧ CMem w y P ∧ szC y + 1 ≤ Rows.uptoBulk x.1 := by
  have h13 : cs.size = 13 := hc.trans (by kernel_rfl)
  have h' : DataW.trod enc Try.prog w 0 (fun _ => true) true n 72 cs.toList = some x := h
  obtain ⟨y, P, h1, h2, h3⟩ := open_commitv (by simpa using h13) h'
  exact ⟨y, P, by unfold cv; congr 1; exact Array.ext' h1, h2, h3⟩
end
end Go.Proofs.Ytjebmmmjjiomfaa
