/- A slice of operations in memory; the walks of New and few. -/
import Derived.Test.YthbfaledmoobjaaDoorBody
import Derived.ProofKit
import Derived.OpenShut
import Derived.SizedLaws
import Derived.Deep.Slices
import Derived.Deep.Strs
namespace Go.Proofs.YthbfaledmoobjaaDoor
open Go.RowKit Go.ChangeShapes Go.WideShapes Go.Deep

/-- the six cells of an operation -/
structure Ao (w : World) (p : Addr) (o : OpN) : Prop where
  c0 : w.cell? p = some (.int .i64 o.k)
  c1 : w.cell? ⟨p.block, p.off + 1, none⟩ = some (.int .i64 o.a)
  c2 : w.cell? ⟨p.block, p.off + 2, none⟩ = some (.int .i64 o.b)
  c3 : w.cell? ⟨p.block, p.off + 3, none⟩ = some (.int .i64 o.c)
  c4 : w.cell? ⟨p.block, p.off + 4, none⟩ = some (.int .i64 o.d)
  c5 : w.cell? ⟨p.block, p.off + 5, none⟩ = some (.string o.s)
/-- a slice of operations -/
structure Os (w : World) (A : Option Addr) (n c : Nat) (l : List OpN) : Prop where
  len : l.length = n
  cap : n ≤ c
  top : c ≤ maxLen
  lies : l = [] ∨ ∃ ad, A = some ad ∧ ∀ (k : Nat) (o : OpN), l[k]? = some o → Ao w (ad.add (k * 6)) o
theorem Ao.keep {w w' : World} {p : Addr} {o : OpN} (h : Ao w p o) (hk : ∀ q : Addr, q.block < w.heap.size → w'.cell? q = w.cell? q) : Ao w' p o := by
  have k : ∀ {q : Addr} {v : Value}, w.cell? q = some v → w'.cell? q = some v := fun {q v} e => (hk q (World.block_lt_of_cell? w _ e)).trans e
  exact ⟨k h.c0, k h.c1, k h.c2, k h.c3, k h.c4, k h.c5⟩
section
variable {w w' : World} {A : Option Addr} {n c : Nat} {l : List OpN}
theorem Os.none (w : World) : Os w Option.none 0 0 [] := ⟨rfl, Nat.le_refl _, Nat.zero_le _, .inl rfl⟩
theorem Os.below (h : Os w A n c l) (hb : Below w.heap.size w w') : Os w' A n c l := by
  refine ⟨h.len, h.cap, h.top, ?_⟩
  rcases h.lies with e | ⟨ad, hA, hc⟩
  · exact .inl e
  · exact .inr ⟨ad, hA, fun k s hs => (hc k s hs).keep fun _ hp => hb.cell hp⟩
theorem Os.at_ (h : Os w A n c l) {k : Nat} (hk : k < n) : ∃ ad o, A = some ad ∧ l[k]? = some o ∧ Ao w (ad.add (k * 6)) o := by
  have hl : k < l.length := by have := h.len; omega
  have hs := List.getElem?_eq_getElem hl
  rcases h.lies with e | ⟨ad, hA, hc⟩
  · rw [e] at hl; simp at hl
  · exact ⟨ad, _, hA, hs, hc _ _ hs⟩
end
theorem add_one6 (p : Addr) (j : Nat) : p.add (j + 1) = ⟨p.block, p.off + (j + 1), none⟩ := by unfold Addr.add; simp
section
variable {H : Type} {enc : TypeId × Value → H} {w : World}
theorem one_int6 {n : Nat} {v : Value} {x : DataW H × List MemPlace} (h : DataW.trod enc Tryd.prog w 0 (fun _ => true) true n 3 [v] = some x) : ∃ z, v = .int .i64 z ∧ W64 z := by
  obtain ⟨z, h1, _, h3⟩ := DataW.trod_int Tryd.underlying3 h
  refine ⟨z, by simpa using h1, ?_⟩
  simp [Lit.wf, IntKind.min, IntKind.max, IntKind.signed, IntKind.bits] at h3
  unfold W64; omega
theorem one_str6 {n : Nat} {v : Value} {x : DataW H × List MemPlace} (h : DataW.trod enc Tryd.prog w 0 (fun _ => true) true n 9 [v] = some x) : ∃ s, v = .string s := by
  obtain ⟨s, h1, _⟩ := DataW.trod_string Tryd.underlying9 h
  exact ⟨s, by simpa using h1⟩
theorem open_op {n : Nat} {cs : List Value} {x : DataW H × List MemPlace} {p : Addr} (hcs : w.cells? 0 p 6 = some cs) (h : DataW.trod enc Tryd.prog w 0 (fun _ => true) true n 46 cs = some x) : ∃ (o : OpN), Ao w p o ∧ OWf o := by
  obtain ⟨_, hlen, hcell⟩ := World.cells?_some hcs
  obtain ⟨xs, n', rfl, _, hl, hsz, hf⟩ := DataW.trod_struct Tryd.underlying46 h
  match cs, hlen with
  | [v0, v1, v2, v3, v4, v5], _ =>
    have e0 := hcell 0 (by omega); have e1 := hcell 1 (by omega); have e2 := hcell 2 (by omega); have e3 := hcell 3 (by omega); have e4 := hcell 4 (by omega); have e5 := hcell 5 (by omega)
    have hx : ∀ i, i < 6 → ∃ y, xs[i]? = some y := fun i hi => ⟨_, List.getElem?_eq_getElem (by rw [hsz]; exact hi)⟩
    have s3 : Tryd.prog.cellsOf 3 = 1 := by kernel_rfl
    have s9 : Tryd.prog.cellsOf 9 = 1 := by kernel_rfl
    obtain ⟨y0, g0⟩ := hx 0 (by omega); obtain ⟨y1, g1⟩ := hx 1 (by omega); obtain ⟨y2, g2⟩ := hx 2 (by omega)
    obtain ⟨y3, g3⟩ := hx 3 (by omega); obtain ⟨y4, g4⟩ := hx 4 (by omega); obtain ⟨y5, g5⟩ := hx 5 (by omega)
    have t0 : DataW.trod enc Tryd.prog w 0 (fun _ => true) true n' 3 (([v0, v1, v2, v3, v4, v5].drop 0).take (Tryd.prog.cellsOf 3)) = some y0 := (hf 0 _ rfl).trans g0
    have t1 : DataW.trod enc Tryd.prog w 0 (fun _ => true) true n' 3 (([v0, v1, v2, v3, v4, v5].drop 1).take (Tryd.prog.cellsOf 3)) = some y1 := (hf 1 _ rfl).trans g1
    have t2 : DataW.trod enc Tryd.prog w 0 (fun _ => true) true n' 3 (([v0, v1, v2, v3, v4, v5].drop 2).take (Tryd.prog.cellsOf 3)) = some y2 := (hf 2 _ rfl).trans g2
    have t3 : DataW.trod enc Tryd.prog w 0 (fun _ => true) true n' 3 (([v0, v1, v2, v3, v4, v5].drop 3).take (Tryd.prog.cellsOf 3)) = some y3 := (hf 3 _ rfl).trans g3
    have t4 : DataW.trod enc Tryd.prog w 0 (fun _ => true) true n' 3 (([v0, v1, v2, v3, v4, v5].drop 4).take (Tryd.prog.cellsOf 3)) = some y4 := (hf 4 _ rfl).trans g4
    have t5 : DataW.trod enc Tryd.prog w 0 (fun _ => true) true n' 9 (([v0, v1, v2, v3, v4, v5].drop 5).take (Tryd.prog.cellsOf 9)) = some y5 := (hf 5 _ rfl).trans g5
    rw [s3] at t0 t1 t2 t3 t4
    rw [s9] at t5
    obtain ⟨z0, rfl, w0⟩ := one_int6 (v := v0) (by simpa using t0)
    obtain ⟨z1, rfl, w1⟩ := one_int6 (v := v1) (by simpa using t1)
    obtain ⟨z2, rfl, w2⟩ := one_int6 (v := v2) (by simpa using t2)
    obtain ⟨z3, rfl, w3⟩ := one_int6 (v := v3) (by simpa using t3)
    obtain ⟨z4, rfl, w4⟩ := one_int6 (v := v4) (by simpa using t4)
    obtain ⟨s, rfl⟩ := one_str6 (v := v5) (by simpa using t5)
    refine ⟨⟨z0, z1, z2, z3, z4, s⟩, ⟨?_, ?_, ?_, ?_, ?_, ?_⟩, w0, w1, w2, w3, w4⟩
    · have : p.add 0 = p := by unfold Addr.add; simp
      rw [this] at e0; simpa using e0
    · rw [show (1 : Nat) = 0 + 1 from rfl, add_one6] at e1; simpa using e1
    · rw [show (2 : Nat) = 1 + 1 from rfl, add_one6] at e2; simpa using e2
    · rw [show (3 : Nat) = 2 + 1 from rfl, add_one6] at e3; simpa using e3
    · rw [show (4 : Nat) = 3 + 1 from rfl, add_one6] at e4; simpa using e4
    · rw [show (5 : Nat) = 4 + 1 from rfl, add_one6] at e5; simpa using e5
theorem c46 : Tryd.prog.cellsOf 46 = 6 := by kernel_rfl
theorem open_ops {fuel : Nat} {cs : List Value} {x : DataW H × List MemPlace} (h : DataW.trod enc Tryd.prog w 0 (fun _ => true) true fuel 22 cs = some x) :
    ∃ (A : Option Addr) (n c : Nat) (l : List OpN), cs = [.slice A n c] ∧ Os w A n c l ∧ ∀ o ∈ l, OWf o := by
  rcases open_slice Tryd.underlying22 h with ⟨hcs, _⟩ | ⟨a, len, cap, m, n, D, Pl, hcs, _, hl, hm, hmm, _, hi⟩
  · exact ⟨none, 0, 0, [], hcs, Os.none w, by simp⟩
  · have hmm' : m = cap := by simpa using hmm
    have inner : ∀ i, ∃ s : OpN, i < len → Ao w (a.add (i * 6)) s ∧ OWf s := fun i => by
      by_cases hil : i < len
      · obtain ⟨cs', q1, q2⟩ := hi i (by omega)
        rw [c46] at q1
        obtain ⟨s, q3, q4⟩ := open_op q1 q2
        exact ⟨s, fun _ => ⟨q3, q4⟩⟩
      · exact ⟨⟨0, 0, 0, 0, 0, ⟨#[]⟩⟩, fun h => absurd h hil⟩
    obtain ⟨L, hL⟩ := Classical.axiomOfChoice inner
    refine ⟨some a, len, cap, (List.range len).map L, hcs, ⟨by simp, hl, hm, .inr ⟨a, rfl, fun k s hs => ?_⟩⟩, fun s hs => ?_⟩
    rotate_left
    · obtain ⟨i, hi2, rfl⟩ := List.mem_map.1 hs
      exact (hL i (List.mem_range.1 hi2)).2
    rw [List.getElem?_map] at hs
    by_cases hk : k < len
    · rw [List.getElem?_range hk] at hs
      simp at hs; subst hs
      exact (hL k hk).1
    · rw [List.getElem?_eq_none (by simp; omega)] at hs; simp at hs
end
theorem new_ok (w : World) : Calls Tryd.prog 26 #[] w fun e w' => ∃ b, e = .returned (.pointer (some ⟨b, 0, none⟩)) ∧ AR w' w.heap.size b [] ∧ Below w.heap.size w w' := by
  have hmm := @run_makeMap Tryd.prog
  go_enter Tryd.func26, Tryd.ntmps26
  go_wp2_with fail
  go_ret
  have hB : Below w.heap.size w ((w.alloc (.map #[] 0)).alloc (.cells #[.slice none 0 0, .map (some w.heap.size)] 53)) := ((Below.refl _ w).alloc (Nat.le_refl _) _).alloc (by simp) _
  refine ⟨w.heap.size + 1, rfl, ?_, hB⟩
  refine ⟨none, 0, w.heap.size, 0, [], fun _ => none, by omega, two_b _ _ _, Ow.nil _ _ _ _, Nat.le_refl _, (MS.new w).block (Below.heap_alloc _ _ _ (by simp)), Nat.le_refl _, fun j x hx => by simp at hx, ⟨fun j x hx => by simp at hx, fun k i => ⟨nofun, ?_⟩, by simp⟩⟩
  rintro ⟨j, x, _, hx, _⟩
  simp at hx
def Few (l : List OpN) : Prop := l.length ≤ 200 ∧ ∀ o ∈ l, o.s.size ≤ 300
instance (l : List OpN) : Decidable (Few l) := by unfold Few; infer_instance
set_option maxHeartbeats 1000000 in
theorem few_ok (A : Option Addr) (n c : Nat) (l : List OpN) (w : World) (h : Os w A n c l) :
    Calls Tryd.prog 9 #[.slice A n c] w fun e w' => e = .returned (.bool (decide (Few l))) ∧ Below w.heap.size w w' := by
  have HL := Lib.hid h.len
  by_cases hn : n ≤ 200
  rotate_left
  · have t1 : decide ((200 : Int) < (n : Int)) = true := decide_eq_true (by omega)
    have HD : Hid (decide (Few l) = false) := Lib.hid (decide_eq_false (fun q => hn (by have := q.1; rwa [HL.out] at this)))
    clear hn
    go_enter Tryd.func9, Tryd.ntmps9
    go_wp2_with fail
    go_ret
    exact ⟨by rw [HD.out]; rfl, Below.refl _ _⟩
  have t1 : decide ((200 : Int) < (n : Int)) = false := decide_eq_false (by omega)
  go_enter Tryd.func9, Tryd.ntmps9
  go_wp2_with fail
  go_loopw [10] (fun i wr => ∃ k : Nat, k ≤ n ∧ i = .int .i64 (k : Int) ∧ Hid (∀ x s, x < k → l[x]? = some s → s.s.size ≤ 300) ∧ Below w.heap.size w wr) (fun i _ => n - (intOf i).toNat)
  case atStart => exact ⟨0, Nat.zero_le _, rfl, Lib.hid (fun x s hx => by omega), Below.refl _ _⟩
  case round =>
    obtain ⟨k, hk, rfl, ha, hB⟩ := hrel
    by_cases hlt : k < n
    · obtain ⟨ad, s, rfl, hks, hat⟩ := (h.below hB).at_ hlt
      obtain ⟨c0, c1, c2, c3, c4, c5⟩ := hat
      have HK := Lib.hid hks
      have hB2 := nxa hB (.cells #[.int .i64 s.k, .int .i64 s.a, .int .i64 s.b, .int .i64 s.c, .int .i64 s.d, .string s.s] 46)
      clear hks
      by_cases hm : s.s.size ≤ 300
      rotate_left
      · have t2 : decide ((300 : Int) < (s.s.size : Int)) = true := decide_eq_true (by omega)
        have t2' : decide (300 < s.s.size) = true := decide_eq_true (by omega)
        have HD : Hid (decide (Few l) = false) := Lib.hid (decide_eq_false (fun q => hm (q.2 s (List.mem_of_getElem? HK.out))))
        clear hm
        go_wp2_with fail
        go_ret
        exact ⟨by rw [HD.out]; rfl, hB2⟩
      have t2 : decide ((300 : Int) < (s.s.size : Int)) = false := decide_eq_false (by omega)
      have t2' : decide (300 < s.s.size) = false := decide_eq_false (by omega)
      have HY : Hid (∀ x u, x < k + 1 → l[x]? = some u → u.s.size ≤ 300) := Lib.hid (fun x u hx hu => by
        by_cases e : x = k
        · subst e; rw [HK.out] at hu; obtain rfl := Option.some.inj hu; exact hm
        · exact ha.out x u (by omega) hu)
      clear hm ha
      go_wp2_with fail
      go_roundw
      case rel => exact ⟨k + 1, by omega, by go_num, HY, hB2⟩
      case measure => simp [intOf]; omega
    · obtain rfl : k = n := by omega
      have HD : Hid (decide (Few l) = true) := Lib.hid (decide_eq_true ⟨by rw [HL.out]; exact hn, fun s hs => by
        obtain ⟨x, hx, rfl⟩ := List.getElem_of_mem hs
        exact ha.out x _ (by rw [← HL.out]; exact hx) (List.getElem?_eq_getElem hx)⟩)
      clear ha
      go_wp2_with fail
      go_ret
      exact ⟨by rw [HD.out]; rfl, hB⟩
end Go.Proofs.YthbfaledmoobjaaDoor
