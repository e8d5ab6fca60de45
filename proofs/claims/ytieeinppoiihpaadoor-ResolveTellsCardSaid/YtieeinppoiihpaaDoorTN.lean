/- Nodes of a tree in memory: six cells each, the last a slice of numbers. -/
import Derived.Test.YtieeinppoiihpaaDoorNodes3
import Derived.ProofKit
import Derived.OpenShut
import Derived.SizedLaws
import Derived.Deep.Slices
import Derived.Deep.Strs
namespace Go.Proofs.YtieeinppoiihpaaDoor
open Go.RowKit Go.ChangeShapes Go.WideShapes Go.Deep

structure TN where
  k : Int
  id : Int
  enc : Int
  sig : Int
  hash : Int
  un : List Int
/-- numbers that fit -/
def W64 (k : Int) : Prop := -9223372036854775808 ≤ k ∧ k ≤ 9223372036854775807
def TWf (s : TN) : Prop := W64 s.k ∧ W64 s.id ∧ W64 s.enc ∧ W64 s.sig ∧ W64 s.hash
/-- the six cells of a node -/
structure At6 (w : World) (p : Addr) (s : TN) (A : Option Addr) (n c : Nat) : Prop where
  c0 : w.cell? p = some (.int .i64 s.k)
  c1 : w.cell? ⟨p.block, p.off + 1, none⟩ = some (.int .i64 s.id)
  c2 : w.cell? ⟨p.block, p.off + 2, none⟩ = some (.int .i64 s.enc)
  c3 : w.cell? ⟨p.block, p.off + 3, none⟩ = some (.int .i64 s.sig)
  c4 : w.cell? ⟨p.block, p.off + 4, none⟩ = some (.int .i64 s.hash)
  c5 : w.cell? ⟨p.block, p.off + 5, none⟩ = some (.slice A n c)
  un : Sl w A n c (iv s.un)
/-- a slice of nodes -/
structure Ts (w : World) (A : Option Addr) (n c : Nat) (l : List TN) : Prop where
  len : l.length = n
  cap : n ≤ c
  top : c ≤ maxLen
  lies : l = [] ∨ ∃ ad, A = some ad ∧ ∀ (k : Nat) (s : TN), l[k]? = some s → ∃ B m d, At6 w (ad.add (k * 6)) s B m d
theorem At6.keep {w w' : World} {p : Addr} {s : TN} {A : Option Addr} {n c : Nat} (h : At6 w p s A n c) (hk : ∀ q : Addr, q.block < w.heap.size → w'.cell? q = w.cell? q) : At6 w' p s A n c := by
  have k : ∀ {q : Addr} {v : Value}, w.cell? q = some v → w'.cell? q = some v := fun {q v} e => (hk q (World.block_lt_of_cell? w _ e)).trans e
  refine ⟨k h.c0, k h.c1, k h.c2, k h.c3, k h.c4, k h.c5, ⟨h.un.len, h.un.cap, h.un.top, ?_⟩⟩
  exact h.un.lies.keep hk
theorem At6.below {w w' : World} {p : Addr} {s : TN} {A : Option Addr} {n c : Nat} (h : At6 w p s A n c) (hb : Below w.heap.size w w') : At6 w' p s A n c := h.keep fun _ hp => hb.cell hp
section
variable {w w' : World} {A : Option Addr} {n c : Nat} {l : List TN}
theorem Ts.none (w : World) : Ts w Option.none 0 0 [] := ⟨rfl, Nat.le_refl _, Nat.zero_le _, .inl rfl⟩
theorem Ts.keep (h : Ts w A n c l) (hk : ∀ q : Addr, q.block < w.heap.size → w'.cell? q = w.cell? q) : Ts w' A n c l := by
  refine ⟨h.len, h.cap, h.top, ?_⟩
  rcases h.lies with e | ⟨ad, hA, hc⟩
  · exact .inl e
  · exact .inr ⟨ad, hA, fun k s hs => by obtain ⟨B, m, d, hat⟩ := hc k s hs; exact ⟨B, m, d, hat.keep hk⟩⟩
theorem Ts.below (h : Ts w A n c l) (hb : Below w.heap.size w w') : Ts w' A n c l := h.keep fun _ hp => hb.cell hp
theorem Ts.alloc (h : Ts w A n c l) (o : Obj) : Ts (w.alloc o) A n c l := h.keep fun p hp => World.cell?_alloc_lt w o p hp
theorem Ts.at_ (h : Ts w A n c l) {k : Nat} (hk : k < n) : ∃ ad s B m d, A = some ad ∧ l[k]? = some s ∧ At6 w (ad.add (k * 6)) s B m d := by
  have hl : k < l.length := by have := h.len; omega
  have hs := List.getElem?_eq_getElem hl
  rcases h.lies with e | ⟨ad, hA, hc⟩
  · rw [e] at hl; simp at hl
  · obtain ⟨B, m, d, hat⟩ := hc _ _ hs
    exact ⟨ad, _, B, m, d, hA, hs, hat⟩
end
theorem add_one6 (p : Addr) (j : Nat) : p.add (j + 1) = ⟨p.block, p.off + (j + 1), none⟩ := by unfold Addr.add; simp
section
variable {H : Type} {enc : TypeId × Value → H} {w : World}
theorem one_int6 {n : Nat} {v : Value} {x : DataW H × List MemPlace} (h : DataW.trod enc Tryd.prog w 0 (fun _ => true) true n 3 [v] = some x) : ∃ z, v = .int .i64 z ∧ W64 z := by
  obtain ⟨z, h1, _, h3⟩ := DataW.trod_int Tryd.underlying3 h
  refine ⟨z, by simpa using h1, ?_⟩
  simp [Lit.wf, IntKind.min, IntKind.max, IntKind.signed, IntKind.bits] at h3
  unfold W64; omega
theorem ints6 {n : Nat} {v : Value} {x : DataW H × List MemPlace} (h : DataW.trod enc Tryd.prog w 0 (fun _ => true) true n 23 [v] = some x) : ∃ A m d, ∃ l : List Int, v = .slice A m d ∧ Sl w A m d (iv l) := by
  rcases open_ints Tryd.underlying23 Tryd.underlying3 (by kernel_rfl) h with ⟨h1, _⟩ | ⟨x, m, d, zs, h1, _, hl, hm, hz, hx, hcell, hwz⟩
  · exact ⟨none, 0, 0, [], by simpa using h1, Sl.none w⟩
  · have hz2 : zs.length = d := by simpa using hz
    have hr : IsRow .i64 w (some x) m d zs := .inr ⟨x, rfl, hl, hm, hz2, hcell, hwz⟩
    obtain ⟨hs, _, _⟩ := hr.ints
    exact ⟨some x, m, d, _, by simpa using h1, hs⟩
theorem open_node {n : Nat} {cs : List Value} {x : DataW H × List MemPlace} {p : Addr} (hcs : w.cells? 0 p 6 = some cs) (h : DataW.trod enc Tryd.prog w 0 (fun _ => true) true n 50 cs = some x) : ∃ (s : TN) (B : Option Addr) (m d : Nat), At6 w p s B m d ∧ TWf s := by
  obtain ⟨_, hlen, hcell⟩ := World.cells?_some hcs
  obtain ⟨xs, n', rfl, _, hl, hsz, hf⟩ := DataW.trod_struct Tryd.underlying50 h
  match cs, hlen with
  | [v0, v1, v2, v3, v4, v5], _ =>
    have e0 := hcell 0 (by omega); have e1 := hcell 1 (by omega); have e2 := hcell 2 (by omega); have e3 := hcell 3 (by omega); have e4 := hcell 4 (by omega); have e5 := hcell 5 (by omega)
    have hx : ∀ i, i < 6 → ∃ y, xs[i]? = some y := fun i hi => ⟨_, List.getElem?_eq_getElem (by rw [hsz]; exact hi)⟩
    have s3 : Tryd.prog.cellsOf 3 = 1 := by kernel_rfl
    have s23 : Tryd.prog.cellsOf 23 = 1 := by kernel_rfl
    obtain ⟨y0, g0⟩ := hx 0 (by omega); obtain ⟨y1, g1⟩ := hx 1 (by omega); obtain ⟨y2, g2⟩ := hx 2 (by omega)
    obtain ⟨y3, g3⟩ := hx 3 (by omega); obtain ⟨y4, g4⟩ := hx 4 (by omega); obtain ⟨y5, g5⟩ := hx 5 (by omega)
    have t0 : DataW.trod enc Tryd.prog w 0 (fun _ => true) true n' 3 (([v0, v1, v2, v3, v4, v5].drop 0).take (Tryd.prog.cellsOf 3)) = some y0 := (hf 0 _ rfl).trans g0
    have t1 : DataW.trod enc Tryd.prog w 0 (fun _ => true) true n' 3 (([v0, v1, v2, v3, v4, v5].drop 1).take (Tryd.prog.cellsOf 3)) = some y1 := (hf 1 _ rfl).trans g1
    have t2 : DataW.trod enc Tryd.prog w 0 (fun _ => true) true n' 3 (([v0, v1, v2, v3, v4, v5].drop 2).take (Tryd.prog.cellsOf 3)) = some y2 := (hf 2 _ rfl).trans g2
    have t3 : DataW.trod enc Tryd.prog w 0 (fun _ => true) true n' 3 (([v0, v1, v2, v3, v4, v5].drop 3).take (Tryd.prog.cellsOf 3)) = some y3 := (hf 3 _ rfl).trans g3
    have t4 : DataW.trod enc Tryd.prog w 0 (fun _ => true) true n' 3 (([v0, v1, v2, v3, v4, v5].drop 4).take (Tryd.prog.cellsOf 3)) = some y4 := (hf 4 _ rfl).trans g4
    have t5 : DataW.trod enc Tryd.prog w 0 (fun _ => true) true n' 23 (([v0, v1, v2, v3, v4, v5].drop 5).take (Tryd.prog.cellsOf 23)) = some y5 := (hf 5 _ rfl).trans g5
    rw [s3] at t0 t1 t2 t3 t4
    rw [s23] at t5
    obtain ⟨z0, rfl, w0⟩ := one_int6 (v := v0) (by simpa using t0)
    obtain ⟨z1, rfl, w1⟩ := one_int6 (v := v1) (by simpa using t1)
    obtain ⟨z2, rfl, w2⟩ := one_int6 (v := v2) (by simpa using t2)
    obtain ⟨z3, rfl, w3⟩ := one_int6 (v := v3) (by simpa using t3)
    obtain ⟨z4, rfl, w4⟩ := one_int6 (v := v4) (by simpa using t4)
    obtain ⟨B, m, d, u, rfl, hu⟩ := ints6 (v := v5) (by simpa using t5)
    refine ⟨⟨z0, z1, z2, z3, z4, u⟩, B, m, d, ⟨?_, ?_, ?_, ?_, ?_, ?_, hu⟩, w0, w1, w2, w3, w4⟩
    · have : p.add 0 = p := by unfold Addr.add; simp
      rw [this] at e0; simpa using e0
    · rw [show (1 : Nat) = 0 + 1 from rfl, add_one6] at e1; simpa using e1
    · rw [show (2 : Nat) = 1 + 1 from rfl, add_one6] at e2; simpa using e2
    · rw [show (3 : Nat) = 2 + 1 from rfl, add_one6] at e3; simpa using e3
    · rw [show (4 : Nat) = 3 + 1 from rfl, add_one6] at e4; simpa using e4
    · rw [show (5 : Nat) = 4 + 1 from rfl, add_one6] at e5; simpa using e5
theorem c50 : Tryd.prog.cellsOf 50 = 6 := by kernel_rfl
theorem open_nodes {fuel : Nat} {cs : List Value} {x : DataW H × List MemPlace} (h : DataW.trod enc Tryd.prog w 0 (fun _ => true) true fuel 39 cs = some x) :
    ∃ (A : Option Addr) (n c : Nat) (l : List TN), cs = [.slice A n c] ∧ Ts w A n c l ∧ ∀ s ∈ l, TWf s := by
  rcases open_slice Tryd.underlying39 h with ⟨hcs, _⟩ | ⟨a, len, cap, m, n, D, Pl, hcs, _, hl, hm, hmm, _, hi⟩
  · exact ⟨none, 0, 0, [], hcs, Ts.none w, by simp⟩
  · have hmm' : m = cap := by simpa using hmm
    have inner : ∀ i, ∃ s : TN, i < len → (∃ B m d, At6 w (a.add (i * 6)) s B m d) ∧ TWf s := fun i => by
      by_cases hil : i < len
      · obtain ⟨cs', q1, q2⟩ := hi i (by omega)
        rw [c50] at q1
        obtain ⟨s, B, m, d, q3, q4⟩ := open_node q1 q2
        exact ⟨s, fun _ => ⟨⟨B, m, d, q3⟩, q4⟩⟩
      · exact ⟨⟨0, 0, 0, 0, 0, []⟩, fun h => absurd h hil⟩
    obtain ⟨L, hL⟩ := Classical.axiomOfChoice inner
    refine ⟨some a, len, cap, (List.range len).map L, hcs, ⟨by simp, hl, hm, .inr ⟨a, rfl, fun k s hs => ?_⟩⟩, fun s hs => ?_⟩
    rotate_left
    · obtain ⟨i, hi2, rfl⟩ := List.mem_map.1 hs
      exact (hL i (List.mem_range.1 hi2)).2
    rw [List.getElem?_map] at hs
    by_cases hk : k < len
    · rw [List.getElem?_range hk] at hs
      simp at hs; subst hs
      exact (hL k hk).1
    · rw [List.getElem?_eq_none (by simp; omega)] at hs; simp at hs
end
end Go.Proofs.YtieeinppoiihpaaDoor
