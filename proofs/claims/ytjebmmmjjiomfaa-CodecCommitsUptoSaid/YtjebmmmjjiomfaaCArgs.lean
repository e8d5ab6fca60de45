/- The laws' arguments opened: trees and bytes, and how great they are. -/
import Derived.Test.YtjebmmmjjiomfaaBulk
import Derived.Test.YtjebmmmjjiomfaaCLive
import Derived.ProofKit
import Derived.OpenShut
import Derived.SizedLaws
import Derived.Deep.Slices
import Derived.Deep.Strs
namespace Go.Proofs.Ytjebmmmjjiomfaa
open Go.RowKit Go.ChangeShapes Go.WideShapes Go.Deep

/-- numbers that fit -/
def W64 (k : Int) : Prop := -9223372036854775808 ≤ k ∧ k ≤ 9223372036854775807
theorem add_one6 (p : Addr) (j : Nat) : p.add (j + 1) = ⟨p.block, p.off + (j + 1), none⟩ := by unfold Addr.add; simp
section
variable {H : Type} {enc : TypeId × Value → H} {w : World}
theorem one_int6 {n : Nat} {v : Value} {x : DataW H × List MemPlace} (h : DataW.trod enc Try.prog w 0 (fun _ => true) true n 3 [v] = some x) : ∃ z, v = .int .i64 z := by
  obtain ⟨z, h1, _, h3⟩ := DataW.trod_int Try.underlying3 h
  exact ⟨z, by simpa using h1⟩
theorem ints6 {n : Nat} {v : Value} {x : DataW H × List MemPlace} (h : DataW.trod enc Try.prog w 0 (fun _ => true) true n 65 [v] = some x) : ∃ A m d, ∃ l : List Int, v = .slice A m d ∧ Sl w A m d (iv l) ∧ l.length + 1 ≤ Rows.uptoBulk x.1 := by
  rcases open_ints Try.underlying65 Try.underlying3 (by kernel_rfl) h with ⟨h1, h2⟩ | ⟨x, m, d, zs, h1, _, hl, hm, hz, hx, hcell, hwz⟩
  · exact ⟨none, 0, 0, [], by simpa using h1, Sl.none w, by rw [h2]; simp [Rows.uptoBulk]⟩
  · have hz2 : zs.length = d := by simpa using hz
    have hr : IsRow .i64 w (some x) m d zs := .inr ⟨x, rfl, hl, hm, hz2, hcell, hwz⟩
    obtain ⟨hs, _, _⟩ := hr.ints
    refine ⟨some x, m, d, _, by simpa using h1, hs, ?_⟩
    rw [hx]
    have := bulk_slice (lits .i64 (zs.take m) : List (DataW H)) (lits .i64 (zs.drop m))
    simpa [lits] using this
theorem open_bytes {n : Nat} {cs : List Value} {x : DataW H × List MemPlace} (h : DataW.trod enc Try.prog w 0 (fun _ => true) true n 23 cs = some x) : ∃ A m d, ∃ l : List UInt8, cs = [.slice A m d] ∧ Sl w A m d (bv l) ∧ l.length + 1 ≤ Rows.uptoBulk x.1 := by
  rcases open_ints Try.underlying23 Try.underlying5 (by kernel_rfl) h with ⟨h1, h2⟩ | ⟨x, m, d, zs, h1, _, hl, hm, hz, hx, hcell, hwz⟩
  · exact ⟨none, 0, 0, [], h1, Sl.none w, by rw [h2]; simp [Rows.uptoBulk]⟩
  · have hz2 : zs.length = d := by simpa using hz
    have hr : IsRow .u8 w (some x) m d zs := .inr ⟨x, rfl, hl, hm, hz2, hcell, hwz⟩
    obtain ⟨l, hs, hll⟩ := hr.bytes
    refine ⟨some x, m, d, l, h1, hs, ?_⟩
    rw [hx, hll]
    have hls : (lits .u8 (zs.take m) : List (DataW H)).length = m := by simp [lits]; omega
    have := bulk_slice (lits .u8 (zs.take m) : List (DataW H)) (lits .u8 (zs.drop m))
    rw [hls] at this
    exact this
set_option maxRecDepth 100000 in
theorem open_nodev {n : Nat} {vs : List Value} {x : DataW H × List MemPlace} (hlen : vs.length = 6) (h : DataW.trod enc Try.prog w 0 (fun _ => true) true n 67 vs = some x) :
    ∃ (s : TN) (B : Option Addr) (m d : Nat), vs = [.int .i64 s.k, .int .i64 s.id, .int .i64 s.enc, .int .i64 s.sig, .int .i64 s.hash, .slice B m d] ∧ Sl w B m d (iv s.un) ∧ s.un.length + 2 ≤ Rows.uptoBulk x.1 := by
  obtain ⟨xs, n', rfl, hx0, hl, hsz, hf⟩ := DataW.trod_struct Try.underlying67 h
  match vs, hlen with
  | [v0, v1, v2, v3, v4, v5], _ =>
    have hx : ∀ i, i < 6 → ∃ y, xs[i]? = some y := fun i hi => ⟨_, List.getElem?_eq_getElem (by rw [hsz]; exact hi)⟩
    have s3 : Try.prog.cellsOf 3 = 1 := by kernel_rfl
    have s23 : Try.prog.cellsOf 65 = 1 := by kernel_rfl
    obtain ⟨y0, g0⟩ := hx 0 (by omega); obtain ⟨y1, g1⟩ := hx 1 (by omega); obtain ⟨y2, g2⟩ := hx 2 (by omega)
    obtain ⟨y3, g3⟩ := hx 3 (by omega); obtain ⟨y4, g4⟩ := hx 4 (by omega); obtain ⟨y5, g5⟩ := hx 5 (by omega)
    have t0 : DataW.trod enc Try.prog w 0 (fun _ => true) true n' 3 (([v0, v1, v2, v3, v4, v5].drop 0).take (Try.prog.cellsOf 3)) = some y0 := (hf 0 _ rfl).trans g0
    have t1 : DataW.trod enc Try.prog w 0 (fun _ => true) true n' 3 (([v0, v1, v2, v3, v4, v5].drop 1).take (Try.prog.cellsOf 3)) = some y1 := (hf 1 _ rfl).trans g1
    have t2 : DataW.trod enc Try.prog w 0 (fun _ => true) true n' 3 (([v0, v1, v2, v3, v4, v5].drop 2).take (Try.prog.cellsOf 3)) = some y2 := (hf 2 _ rfl).trans g2
    have t3 : DataW.trod enc Try.prog w 0 (fun _ => true) true n' 3 (([v0, v1, v2, v3, v4, v5].drop 3).take (Try.prog.cellsOf 3)) = some y3 := (hf 3 _ rfl).trans g3
    have t4 : DataW.trod enc Try.prog w 0 (fun _ => true) true n' 3 (([v0, v1, v2, v3, v4, v5].drop 4).take (Try.prog.cellsOf 3)) = some y4 := (hf 4 _ rfl).trans g4
    have t5 : DataW.trod enc Try.prog w 0 (fun _ => true) true n' 65 (([v0, v1, v2, v3, v4, v5].drop 5).take (Try.prog.cellsOf 65)) = some y5 := (hf 5 _ rfl).trans g5
    rw [s3] at t0 t1 t2 t3 t4
    rw [s23] at t5
    obtain ⟨z0, rfl⟩ := one_int6 (v := v0) (by simpa using t0)
    obtain ⟨z1, rfl⟩ := one_int6 (v := v1) (by simpa using t1)
    obtain ⟨z2, rfl⟩ := one_int6 (v := v2) (by simpa using t2)
    obtain ⟨z3, rfl⟩ := one_int6 (v := v3) (by simpa using t3)
    obtain ⟨z4, rfl⟩ := one_int6 (v := v4) (by simpa using t4)
    obtain ⟨B, m, d, u, rfl, hu, hb⟩ := ints6 (v := v5) (by simpa using t5)
    refine ⟨⟨z0, z1, z2, z3, z4, u⟩, B, m, d, rfl, hu, ?_⟩
    rw [hx0]
    have hm := bulk_mem (d := y5.1) (l := xs.map (·.1)) (List.mem_map.2 ⟨y5, List.mem_of_getElem? g5, rfl⟩)
    show _ ≤ Rows.uptoBulkAll _ + 1
    show u.length + 2 ≤ _
    omega
theorem c67 : Try.prog.cellsOf 67 = 6 := by kernel_rfl
theorem open_node {n : Nat} {cs : List Value} {x : DataW H × List MemPlace} {p : Addr} (hcs : w.cells? 0 p 6 = some cs) (h : DataW.trod enc Try.prog w 0 (fun _ => true) true n 67 cs = some x) : ∃ (s : TN) (B : Option Addr) (m d : Nat), At6 w p s B m d ∧ s.un.length + 2 ≤ Rows.uptoBulk x.1 := by
  obtain ⟨_, hlen, hcell⟩ := World.cells?_some hcs
  obtain ⟨s, B, m, d, rfl, hu, hb⟩ := open_nodev hlen h
  have e0 := hcell 0 (by omega); have e1 := hcell 1 (by omega); have e2 := hcell 2 (by omega); have e3 := hcell 3 (by omega); have e4 := hcell 4 (by omega); have e5 := hcell 5 (by omega)
  refine ⟨s, B, m, d, ⟨?_, ?_, ?_, ?_, ?_, ?_, hu⟩, hb⟩
  · have : p.add 0 = p := by unfold Addr.add; simp
    rw [this] at e0; simpa using e0
  · rw [show (1 : Nat) = 0 + 1 from rfl, add_one6] at e1; simpa using e1
  · rw [show (2 : Nat) = 1 + 1 from rfl, add_one6] at e2; simpa using e2
  · rw [show (3 : Nat) = 2 + 1 from rfl, add_one6] at e3; simpa using e3
  · rw [show (4 : Nat) = 3 + 1 from rfl, add_one6] at e4; simpa using e4
  · rw [show (5 : Nat) = 4 + 1 from rfl, add_one6] at e5; simpa using e5
theorem bulk_sum {α : Type} (g : α → Nat) : ∀ (l : List α) (ds : List (DataW H)), l.length = ds.length → (∀ (i : Nat) a d, l[i]? = some a → ds[i]? = some d → g a ≤ Rows.uptoBulk d) → (l.map g).sum ≤ Rows.uptoBulkAll ds
  | [], [], _, _ => Nat.le_refl _
  | [], _ :: _, h, _ => by simp at h
  | _ :: _, [], h, _ => by simp at h
  | a :: l, d :: ds, h, k => by
    have h1 := bulk_sum g l ds (by simpa using h) (fun i a d e1 e2 => k (i + 1) a d (by simpa using e1) (by simpa using e2))
    have h2 := k 0 a d rfl rfl
    simp only [List.map_cons, List.sum_cons, Rows.uptoBulkAll]
    omega
theorem open_nodes {fuel : Nat} {cs : List Value} {x : DataW H × List MemPlace} (h : DataW.trod enc Try.prog w 0 (fun _ => true) true fuel 49 cs = some x) :
    ∃ (A : Option Addr) (n c : Nat) (l : List TN), cs = [.slice A n c] ∧ Ts w A n c l ∧ szT l + 1 ≤ Rows.uptoBulk x.1 := by
  rcases open_slice Try.underlying49 h with ⟨hcs, hx⟩ | ⟨a, len, cap, m, n, D, Pl, hcs, _, hl, hm, hmm, hx, hi⟩
  · exact ⟨none, 0, 0, [], hcs, Ts.none w, by rw [hx]; simp [Rows.uptoBulk, szT]⟩
  · have hmm' : m = cap := by simpa using hmm
    have inner : ∀ i, ∃ s : TN, i < len → (∃ B m d, At6 w (a.add (i * 6)) s B m d) ∧ s.un.length + 2 ≤ Rows.uptoBulk (D i) := fun i => by
      by_cases hil : i < len
      · obtain ⟨cs', q1, q2⟩ := hi i (by omega)
        rw [c67] at q1
        obtain ⟨s, B, m, d, q3, q4⟩ := open_node q1 q2
        exact ⟨s, fun _ => ⟨⟨B, m, d, q3⟩, q4⟩⟩
      · exact ⟨⟨0, 0, 0, 0, 0, []⟩, fun h => absurd h hil⟩
    obtain ⟨L, hL⟩ := Classical.axiomOfChoice inner
    refine ⟨some a, len, cap, (List.range len).map L, hcs, ⟨by simp, hl, hm, .inr ⟨a, rfl, fun k s hs => ?_⟩⟩, ?_⟩
    · rw [List.getElem?_map] at hs
      by_cases hk : k < len
      · rw [List.getElem?_range hk] at hs
        simp at hs; subst hs
        exact (hL k hk).1
      · rw [List.getElem?_eq_none (by simp; omega)] at hs; simp at hs
    · rw [hx]
      have := bulk_sum (H := H) (fun s : TN => 1 + s.un.length) ((List.range len).map L) ((List.range len).map D) (by simp) (fun i s d e1 e2 => by
        by_cases hk : i < len
        · rw [List.getElem?_map, List.getElem?_range hk] at e1 e2
          simp at e1 e2
          subst e1 e2
          have := (hL i hk).2
          show 1 + (L i).un.length ≤ _
          omega
        · rw [List.getElem?_eq_none (by simp; omega)] at e1; simp at e1)
      show szT _ + 1 ≤ Rows.uptoBulkAll ((List.range len).map D) + _ + 1
      unfold szT
      omega
end
end Go.Proofs.Ytjebmmmjjiomfaa
