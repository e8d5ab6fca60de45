/- The walk of the reference's node, that reads. -/
import Derived.Test.YtjebmmmjjiomfaaRFInts
namespace Go.Proofs.Ytjebmmmjjiomfaa
open Go.RowKit

/-- six cells of a block that may be written -/
structure B6 (w : World) (z : Nat) (a b c d e f : Value) : Prop where
  c0 : w.cell? ⟨z, 0, none⟩ = some a
  c1 : w.cell? ⟨z, 1, none⟩ = some b
  c2 : w.cell? ⟨z, 2, none⟩ = some c
  c3 : w.cell? ⟨z, 3, none⟩ = some d
  c4 : w.cell? ⟨z, 4, none⟩ = some e
  c5 : w.cell? ⟨z, 5, none⟩ = some f
  fr : ∀ j, w.frozen? ⟨z, j, none⟩ = false
  ty : IsT w z 67
theorem B6.of {w : World} {z : Nat} {a b c d e f : Value} (h : w.heap[z]? = some (.cells #[a, b, c, d, e, f] 67)) : B6 w z a b c d e f :=
  ⟨cell_of h 0, cell_of h 1, cell_of h 2, cell_of h 3, cell_of h 4, cell_of h 5, fun j => frz_of h j, ⟨_, _, h⟩⟩
theorem B6.bit {w : World} {z : Nat} {a b c d e f : Value} (h : B6 w z a b c d e f) : z < w.heap.size := World.block_lt_of_cell? w _ h.c0
theorem B6.kx {X : Nat → Prop} {w w' : World} {z : Nat} {a b c d e f : Value} (h : B6 w z a b c d e f) (k : KX X w w') (hz : ¬ X z) : B6 w' z a b c d e f :=
  ⟨k.cell h.c0 hz, k.cell h.c1 hz, k.cell h.c2 hz, k.cell h.c3 hz, k.cell h.c4 hz, k.cell h.c5 hz, fun j => k.frz (h.fr j) hz h.bit, h.ty.kx k hz⟩
theorem B6.set0 {w : World} {z : Nat} {a b c d e f : Value} (h : B6 w z a b c d e f) (v : Value) : B6 (w.setCell ⟨z, 0, none⟩ v) z v b c d e f := by
  refine ⟨?_, ?_, ?_, ?_, ?_, ?_, fun i => by rw [World.frozen?_setCell]; exact h.fr i, h.ty.set _ _⟩
  · exact World.cell?_setCell_same _ _ _ h.c0
  · rw [World.cell?_setCell_other _ _ _ _ (by simp)]; exact h.c1
  · rw [World.cell?_setCell_other _ _ _ _ (by simp)]; exact h.c2
  · rw [World.cell?_setCell_other _ _ _ _ (by simp)]; exact h.c3
  · rw [World.cell?_setCell_other _ _ _ _ (by simp)]; exact h.c4
  · rw [World.cell?_setCell_other _ _ _ _ (by simp)]; exact h.c5
theorem B6.set1 {w : World} {z : Nat} {a b c d e f : Value} (h : B6 w z a b c d e f) (v : Value) : B6 (w.setCell ⟨z, 1, none⟩ v) z a v c d e f := by
  refine ⟨?_, ?_, ?_, ?_, ?_, ?_, fun i => by rw [World.frozen?_setCell]; exact h.fr i, h.ty.set _ _⟩
  · rw [World.cell?_setCell_other _ _ _ _ (by simp)]; exact h.c0
  · exact World.cell?_setCell_same _ _ _ h.c1
  · rw [World.cell?_setCell_other _ _ _ _ (by simp)]; exact h.c2
  · rw [World.cell?_setCell_other _ _ _ _ (by simp)]; exact h.c3
  · rw [World.cell?_setCell_other _ _ _ _ (by simp)]; exact h.c4
  · rw [World.cell?_setCell_other _ _ _ _ (by simp)]; exact h.c5
theorem B6.set2 {w : World} {z : Nat} {a b c d e f : Value} (h : B6 w z a b c d e f) (v : Value) : B6 (w.setCell ⟨z, 2, none⟩ v) z a b v d e f := by
  refine ⟨?_, ?_, ?_, ?_, ?_, ?_, fun i => by rw [World.frozen?_setCell]; exact h.fr i, h.ty.set _ _⟩
  · rw [World.cell?_setCell_other _ _ _ _ (by simp)]; exact h.c0
  · rw [World.cell?_setCell_other _ _ _ _ (by simp)]; exact h.c1
  · exact World.cell?_setCell_same _ _ _ h.c2
  · rw [World.cell?_setCell_other _ _ _ _ (by simp)]; exact h.c3
  · rw [World.cell?_setCell_other _ _ _ _ (by simp)]; exact h.c4
  · rw [World.cell?_setCell_other _ _ _ _ (by simp)]; exact h.c5
theorem B6.set3 {w : World} {z : Nat} {a b c d e f : Value} (h : B6 w z a b c d e f) (v : Value) : B6 (w.setCell ⟨z, 3, none⟩ v) z a b c v e f := by
  refine ⟨?_, ?_, ?_, ?_, ?_, ?_, fun i => by rw [World.frozen?_setCell]; exact h.fr i, h.ty.set _ _⟩
  · rw [World.cell?_setCell_other _ _ _ _ (by simp)]; exact h.c0
  · rw [World.cell?_setCell_other _ _ _ _ (by simp)]; exact h.c1
  · rw [World.cell?_setCell_other _ _ _ _ (by simp)]; exact h.c2
  · exact World.cell?_setCell_same _ _ _ h.c3
  · rw [World.cell?_setCell_other _ _ _ _ (by simp)]; exact h.c4
  · rw [World.cell?_setCell_other _ _ _ _ (by simp)]; exact h.c5
theorem B6.set4 {w : World} {z : Nat} {a b c d e f : Value} (h : B6 w z a b c d e f) (v : Value) : B6 (w.setCell ⟨z, 4, none⟩ v) z a b c d v f := by
  refine ⟨?_, ?_, ?_, ?_, ?_, ?_, fun i => by rw [World.frozen?_setCell]; exact h.fr i, h.ty.set _ _⟩
  · rw [World.cell?_setCell_other _ _ _ _ (by simp)]; exact h.c0
  · rw [World.cell?_setCell_other _ _ _ _ (by simp)]; exact h.c1
  · rw [World.cell?_setCell_other _ _ _ _ (by simp)]; exact h.c2
  · rw [World.cell?_setCell_other _ _ _ _ (by simp)]; exact h.c3
  · exact World.cell?_setCell_same _ _ _ h.c4
  · rw [World.cell?_setCell_other _ _ _ _ (by simp)]; exact h.c5
theorem B6.set5 {w : World} {z : Nat} {a b c d e f : Value} (h : B6 w z a b c d e f) (v : Value) : B6 (w.setCell ⟨z, 5, none⟩ v) z a b c d e v := by
  refine ⟨?_, ?_, ?_, ?_, ?_, ?_, fun i => by rw [World.frozen?_setCell]; exact h.fr i, h.ty.set _ _⟩
  · rw [World.cell?_setCell_other _ _ _ _ (by simp)]; exact h.c0
  · rw [World.cell?_setCell_other _ _ _ _ (by simp)]; exact h.c1
  · rw [World.cell?_setCell_other _ _ _ _ (by simp)]; exact h.c2
  · rw [World.cell?_setCell_other _ _ _ _ (by simp)]; exact h.c3
  · rw [World.cell?_setCell_other _ _ _ _ (by simp)]; exact h.c4
  · exact World.cell?_setCell_same _ _ _ h.c5
theorem B6.lay {w : World} {z : Nat} {a b c d e f a0 b0 c0 d0 e0 f0 : Value} (h : B6 w z a0 b0 c0 d0 e0 f0) : B6 (lay6 w z a b c d e f) z a b c d e f :=
  (((((h.set0 a).set1 b).set2 c).set3 d).set4 e).set5 f
/-- what stands while a node is read: the two boxes, the reader, what is kept -/
structure NS (X : Nat → Prop) (w : World) (g z p : Nat) (o : Option (List UInt8)) (a b c d e f : Value) (wr : World) : Prop where
  bx : B6 wr z a b c d e f
  rs : B6 wr g (.int .i64 0) (.int .i64 0) (.int .i64 0) (.int .i64 0) (.int .i64 0) (.slice none 0 0)
  rf : RF (plus X w) wr p o
  kx : KX (· = p) w wr
  pg : p < g
  wg : w.heap.size ≤ g
  gz : g < z
section
variable {X : Nat → Prop} {w : World} {g z p : Nat} {o o2 : Option (List UInt8)} {a b c d e f : Value} {wr w2 : World}
theorem NS.call (h : NS X w g z p o a b c d e f wr) (k : KX (· = p) wr w2) (r : RF (plus X w) w2 p o2) : NS X w g z p o2 a b c d e f w2 :=
  ⟨h.bx.kx k (by have := h.gz; have := h.pg; omega), h.rs.kx k (by have := h.pg; omega), r, h.kx.trans k, h.pg, h.wg, h.gz⟩
theorem NS.far (h : NS X w g z p o a b c d e f wr) {a' b' c' d' e' f' : Value} (k : KX (· = z) wr w2) (n : B6 w2 z a' b' c' d' e' f') : NS X w g z p o a' b' c' d' e' f' w2 :=
  ⟨n, h.rs.kx k (by have := h.gz; omega), h.rf.kx k (fun i e _ => .inr (by have := h.gz; have := h.wg; omega)) (by have := h.gz; have := h.pg; omega), h.kx.next k (fun i e => .inr (by have := h.gz; have := h.wg; omega)), h.pg, h.wg, h.gz⟩
theorem NS.set0 (h : NS X w g z p o a b c d e f wr) (v : Value) : NS X w g z p o v b c d e f (wr.setCell ⟨z, 0, none⟩ v) := h.far ((KX.refl (· = z) wr).set ⟨z, 0, none⟩ v (.inl rfl)) (h.bx.set0 v)
theorem NS.set1 (h : NS X w g z p o a b c d e f wr) (v : Value) : NS X w g z p o a v c d e f (wr.setCell ⟨z, 1, none⟩ v) := h.far ((KX.refl (· = z) wr).set ⟨z, 1, none⟩ v (.inl rfl)) (h.bx.set1 v)
theorem NS.set2 (h : NS X w g z p o a b c d e f wr) (v : Value) : NS X w g z p o a b v d e f (wr.setCell ⟨z, 2, none⟩ v) := h.far ((KX.refl (· = z) wr).set ⟨z, 2, none⟩ v (.inl rfl)) (h.bx.set2 v)
theorem NS.set3 (h : NS X w g z p o a b c d e f wr) (v : Value) : NS X w g z p o a b c v e f (wr.setCell ⟨z, 3, none⟩ v) := h.far ((KX.refl (· = z) wr).set ⟨z, 3, none⟩ v (.inl rfl)) (h.bx.set3 v)
theorem NS.set4 (h : NS X w g z p o a b c d e f wr) (v : Value) : NS X w g z p o a b c d v f (wr.setCell ⟨z, 4, none⟩ v) := h.far ((KX.refl (· = z) wr).set ⟨z, 4, none⟩ v (.inl rfl)) (h.bx.set4 v)
theorem NS.set5 (h : NS X w g z p o a b c d e f wr) (v : Value) : NS X w g z p o a b c d e v (wr.setCell ⟨z, 5, none⟩ v) := h.far ((KX.refl (· = z) wr).set ⟨z, 5, none⟩ v (.inl rfl)) (h.bx.set5 v)
end
/-- the end of a node's reading -/
theorem NS.close {X : Nat → Prop} {w : World} {g z p d : Nat} {o o' : Option (List UInt8)} {s : TN} {B : Option Addr} {wr w3 : World} (h : NS X w g z p o' (.int .i64 s.k) (.int .i64 s.id) (.int .i64 s.enc) (.int .i64 s.sig) (.int .i64 s.hash) (.slice B s.un.length d) wr)
    (hL : KX (· = g) wr w3) (hU : UO wr B s.un.length d s.un) (hO : Out rNode o s o') : RQ rNode NV X p o w (.returned (nv s B s.un.length d)) w3 :=
  ⟨s, _, o', rfl, ⟨B, d, rfl, hU.k3 (K3.kx hL (fun b e => ⟨67, by decide, by subst e; exact h.rs.ty⟩))⟩, hO, (h.rf.kx hL (fun i e _ => .inr (by have := h.wg; omega)) (by have := h.pg; omega)).weak (fun i _ e => .inl e), h.kx.next hL (fun i e => .inr (by have := h.wg; omega))⟩
/-- numbers read one after another -/
def Rd (k : Nat) (o : Option (List UInt8)) (ns : List Int) (o' : Option (List UInt8)) : Prop := ns.length = k ∧ Out (rIs k) o ns o'
theorem Rd.zero (o : Option (List UInt8)) : Rd 0 o [] o := ⟨rfl, by cases o <;> rfl, fun a' r h => by
  cases o with
  | none => cases h
  | some l => injection h with h; injection h with h _; exact h.symm⟩
theorem Rd.snoc {k : Nat} {o o1 o2 : Option (List UInt8)} {ns : List Int} {a : Int} (h : Rd k o ns o1) (k2 : Out rI o1 a o2) : Rd (k + 1) o (ns ++ [a]) o2 := by
  obtain ⟨h0, h1, h2⟩ := h
  refine ⟨by simp [h0], ?_⟩
  cases o with
  | none =>
    subst h1
    have := k2.1
    subst this
    exact Out.none _ _
  | some l =>
    rw [Option.bind_some] at h1 h2
    cases e : rIs k l with
    | none =>
      rw [e] at h1
      subst h1
      have := k2.1
      subst this
      exact Out.bad _ (by
        have : ∀ (k : Nat) (l : List UInt8), rIs k l = none → rIs (k + 1) l = none := by
          intro k
          induction k with
          | zero => intro l h; cases h
          | succ k ih =>
            intro l h
            rw [rIs] at h ⊢
            cases e : rI l with
            | none => rfl
            | some x =>
              rw [e, Option.bind_some] at h
              rw [Option.bind_some]
              cases e2 : rIs k x.2 with
              | none => rw [ih _ e2]; rfl
              | some y => rw [e2] at h; cases h
        exact this k l e)
    | some y =>
      rw [e] at h1
      subst h1
      have hn := h2 y.1 y.2 e
      obtain ⟨k3, k4⟩ := k2
      rw [show (Option.map (·.2) (some y)) = some y.2 from rfl, Option.bind_some] at k3 k4
      cases e2 : rI y.2 with
      | none =>
        rw [e2] at k3
        subst k3
        exact Out.bad _ (rIs_stop (r := y.2) (ns := y.1) e e2 (Nat.lt_succ_self k))
      | some u =>
        rw [e2] at k3
        subst k3
        have ha := k4 u.1 u.2 e2
        have := rIs_snoc (r := y.2) (ns := y.1) (z := u.1) (r2 := u.2) e e2
        rw [hn, ha] at this
        exact Out.some this
/-- one reading behind another -/
theorem Out.chain {α β γ : Type} {f : List UInt8 → Option (α × List UInt8)} {g : α → List UInt8 → Option (β × List UInt8)} {h : α → β → γ} {F : List UInt8 → Option (γ × List UInt8)} {o o1 o2 : Option (List UInt8)} {a : α} {b : β}
    (k1 : Out f o a o1) (k2 : Out (g a) o1 b o2) (hF : ∀ l, F l = (f l).bind fun x => (g x.1 x.2).bind fun y => Option.some (h x.1 y.1, y.2)) : Out F o (h a b) o2 := by
  cases o with
  | none =>
    have := k1.1
    subst this
    have := k2.1
    subst this
    exact Out.none _ _
  | some l =>
    obtain ⟨h1, h2⟩ := k1
    rw [Option.bind_some] at h1 h2
    cases e : f l with
    | none =>
      rw [e] at h1
      subst h1
      have := k2.1
      subst this
      exact Out.bad _ (by rw [hF, e]; rfl)
    | some x =>
      rw [e] at h1
      subst h1
      have ha := h2 x.1 x.2 e
      obtain ⟨k3, k4⟩ := k2
      rw [show (Option.map (·.2) (Option.some x)) = Option.some x.2 from rfl, Option.bind_some] at k3 k4
      cases e2 : g a x.2 with
      | none =>
        rw [e2] at k3
        subst k3
        exact Out.bad _ (by rw [hF, e, Option.bind_some, ha, e2]; rfl)
      | some y =>
        rw [e2] at k3
        subst k3
        have hb := k4 y.1 y.2 e2
        exact Out.some (by rw [hF, e, Option.bind_some, ha, e2, Option.bind_some, hb])
/-- a node's reading, by its kind -/
def rNodeK (k : Int) (l : List UInt8) : Option (TN × List UInt8) :=
  if k = 0 then some (nd0, l)
  else if k = 1 then (rIs 4 l).bind fun y => some (nd1 y.1, y.2)
  else if k = 2 then (rIs 2 l).bind fun y => (rL rI y.2).bind fun z => some (nd2 y.1 z.1, z.2)
  else none
theorem rNode_K (l : List UInt8) : rNode l = (rI l).bind fun x => (rNodeK x.1 x.2).bind fun y => some (y.1, y.2) := by
  unfold rNode
  cases rI l with
  | none => rfl
  | some x =>
    rw [Option.bind_some, Option.bind_some]
    show rNodeK x.1 x.2 = _
    cases rNodeK x.1 x.2 <;> rfl
theorem out_node {o o1 o2 : Option (List UInt8)} {k : Int} {s : TN} (h : Out rI o k o1) (h2 : Out (rNodeK k) o1 s o2) : Out rNode o s o2 :=
  Out.chain (g := rNodeK) (h := fun _ s => s) h h2 rNode_K
theorem outK0 (o : Option (List UInt8)) : Out (rNodeK 0) o nd0 o := by
  cases o with
  | none => exact Out.none _ _
  | some l => exact Out.some (by unfold rNodeK; rw [if_pos rfl])
theorem outK1 {o o' : Option (List UInt8)} {ns : List Int} (h : Rd 4 o ns o') : Out (rNodeK 1) o (nd1 ns) o' := by
  refine Out.chain (g := fun _ l => some ((), l)) (h := fun ns _ => nd1 ns) h.2 (b := ()) ?_ ?_
  · cases o' with
    | none => exact Out.none _ _
    | some l => exact Out.some rfl
  · intro l; unfold rNodeK; rw [if_neg (by decide), if_pos rfl]; rfl
theorem outK2 {o o1 o' : Option (List UInt8)} {ns un : List Int} (h : Rd 2 o ns o1) (h2 : Out (rL rI) o1 un o') : Out (rNodeK 2) o (nd2 ns un) o' :=
  Out.chain (g := fun _ => rL rI) (h := nd2) h.2 h2 (fun l => by unfold rNodeK; rw [if_neg (by decide), if_neg (by decide), if_pos rfl])
theorem outKX {k : Int} (h0 : k ≠ 0) (h1 : k ≠ 1) (h2 : k ≠ 2) (o : Option (List UInt8)) (s : TN) : Out (rNodeK k) o s none := by
  cases o with
  | none => exact Out.none _ _
  | some l => exact Out.bad _ (by unfold rNodeK; rw [if_neg h0, if_neg h1, if_neg h2])
set_option maxRecDepth 100000 in
set_option maxHeartbeats 8000000 in
theorem rfnode_ok (p : Nat) (X : Nat → Prop) (o : Option (List UInt8)) (w : World) (h : RF X w p o) (hX : X p) :
    Calls Try.prog 89 #[.pointer (some ⟨p, 0, none⟩)] w (RQ rNode NV X p o w) := by
  have hbit := h.bit
  obtain ⟨g, hg⟩ : ∃ g, w.heap.size = g := ⟨_, rfl⟩
  obtain ⟨wa, hwa⟩ : ∃ wa, w.alloc (.cells #[.int .i64 0, .int .i64 0, .int .i64 0, .int .i64 0, .int .i64 0, .slice none 0 0] 67) = wa := ⟨_, rfl⟩
  have hBa : Below w.heap.size w wa := by rw [← hwa]; exact nxa (Below.refl _ _) _
  have k0 : wa.heap[g]? = some (.cells #[.int .i64 0, .int .i64 0, .int .i64 0, .int .i64 0, .int .i64 0, .slice none 0 0] 67) := by rw [← hwa, ← hg]; exact heap_alloc_new _ _
  have hR : RF (plus X w) wa p o := (h.weak (Y := plus X w) (fun i hi e => by rcases e with e | e; exact e; omega)).below hBa
  have HXP : Hid (plus X w p) := Lib.hid (.inl hX)
  have HC := Lib.hid (rfint_ok p (plus X w) o wa hR HXP.out)
  have HB := Lib.hid hBa; have HWA := Lib.hid hwa; have K0 := Lib.hid k0; have HG := Lib.hid hg
  have hpg : p < g := by omega
  clear hBa hwa k0 hR h hX
  go_enter Try.func89, Try.ntmps89
  go_wp2_with fail
  rw [HWA.out]
  clear hg hbit
  refine HC.out.mono ?_
  rintro e w1 ⟨k, v, o1, rfl, rfl, f3, f4, f5⟩
  obtain ⟨z, hz⟩ : ∃ z, w1.heap.size = z := ⟨_, rfl⟩
  have hz1 : g < z := by have := f5.size; have := (Array.getElem?_eq_some_iff.1 K0.out).1; omega
  obtain ⟨wn, hwn⟩ : ∃ wn, w1.alloc (.cells #[.int .i64 k, .int .i64 0, .int .i64 0, .int .i64 0, .int .i64 0, .slice none 0 0] 67) = wn := ⟨_, rfl⟩
  have hBn : Below w1.heap.size w1 wn := by rw [← hwn]; exact nxa (Below.refl _ _) _
  have hNS : NS X w g z p o1 (.int .i64 k) (.int .i64 0) (.int .i64 0) (.int .i64 0) (.int .i64 0) (.slice none 0 0) wn := by
    refine ⟨B6.of (by rw [← hwn, ← hz]; exact heap_alloc_new _ _), ((B6.of K0.out).kx f5 (by omega)).kx (X := fun _ => False) (KX.of hBn) (fun e => e), f4.below hBn, ((KX.of (X := (· = p)) HB.out).trans f5).past (hBn.mono (by have := f5.size; have := HB.out.size; omega)), hpg, by rw [HG.out]; omega, hz1⟩
  have HG1 : Hid (B6 w1 g (.int .i64 0) (.int .i64 0) (.int .i64 0) (.int .i64 0) (.int .i64 0) (.slice none 0 0)) := Lib.hid ((B6.of K0.out).kx f5 (by omega))
  have HF4 := Lib.hid f4; have HK5 := Lib.hid ((KX.of (X := (· = p)) HB.out).trans f5)
  have HO := Lib.hid f3; have HN := Lib.hid hNS; have HWN := Lib.hid hwn
  have hpz : p ≠ z := by omega
  clear f3 f4 f5 hBn hNS hwn
  by_cases hk0 : k = 0
  · subst hk0
    have HN' : Hid (NS X w g z p o1 (.int .i64 0) (.int .i64 0) (.int .i64 0) (.int .i64 0) (.int .i64 0) (.slice none 0 0) wn) := HN
    have hwn0 : Hid (w1.alloc (.cells #[.int .i64 0, .int .i64 0, .int .i64 0, .int .i64 0, .int .i64 0, .slice none 0 0] 67) = wn) := HWN
    have u0 := HG1.out.c0; have u1 := HG1.out.c1; have u2 := HG1.out.c2; have u3 := HG1.out.c3; have u4 := HG1.out.c4; have u5 := HG1.out.c5
    have x0 := HG1.out.fr 0; have x1 := HG1.out.fr 1; have x2 := HG1.out.fr 2; have x3 := HG1.out.fr 3; have x4 := HG1.out.fr 4; have x5 := HG1.out.fr 5
    go_wp2_with fail
    refine (show bodyPost Try.prog Try.f89 (RQ rNode NV X p o w) Exit.ret _ ((lay6 w1 g (.int .i64 0) (.int .i64 0) (.int .i64 0) (.int .i64 0) (.int .i64 0) (.slice none 0 0)).alloc (.cells #[.int .i64 0, .int .i64 0, .int .i64 0, .int .i64 0, .int .i64 0, .slice none 0 0] 67)) from ?_)
    have hL := lay6_kx w1 g (.int .i64 0) (.int .i64 0) (.int .i64 0) (.int .i64 0) (.int .i64 0) (.slice none 0 0)
    have hB6 := HG1.out.lay (a := .int .i64 0) (b := .int .i64 0) (c := .int .i64 0) (d := .int .i64 0) (e := .int .i64 0) (f := .slice none 0 0)
    generalize lay6 w1 g (.int .i64 0) (.int .i64 0) (.int .i64 0) (.int .i64 0) (.int .i64 0) (.slice none 0 0) = w8 at *
    have hBl : Below w8.heap.size w8 (w8.alloc (.cells #[.int .i64 0, .int .i64 0, .int .i64 0, .int .i64 0, .int .i64 0, .slice none 0 0] 67)) := nxa (Below.refl _ _) _
    have hB7 := hB6.kx (X := fun _ => False) (KX.of hBl) (fun e => e)
    generalize w8.alloc (.cells #[.int .i64 0, .int .i64 0, .int .i64 0, .int .i64 0, .int .i64 0, .slice none 0 0] 67) = w9 at *
    have l0 := hB7.c0; have l1 := hB7.c1; have l2 := hB7.c2; have l3 := hB7.c3; have l4 := hB7.c4; have l5 := hB7.c5
    simp [bodyPost, results, Try.results89, go_sem, l0, l1, l2, l3, l4, l5]
    have hwg : w.heap.size ≤ g := by rw [HG.out]; omega
    exact ⟨nd0, _, o1, rfl, ⟨none, 0, rfl, UO.none _⟩, out_node HO.out (outK0 o1), ((HF4.out.kx hL (fun i e _ => .inr (by omega)) (by omega)).below hBl).weak (fun i _ e => .inl e), (HK5.out.next hL (fun i e => .inr (by omega))).trans (KX.of hBl)⟩
  · by_cases hk1 : k = 1
    · have t0 : (k == 0) = false := by rw [beq_eq_false_iff_ne]; exact hk0
      have t : (k == 1) = true := by rw [beq_iff_eq]; exact hk1
      have HKE := Lib.hid hk1
      clear hk0 hk1
      go_wp2_with fail
      rw [HWN.out]
      have HC0 := Lib.hid (rfint_ok p (plus X w) o1 wn HN.out.rf HXP.out)
      refine HC0.out.mono ?_
      rintro e v1 ⟨a1, v, q1, rfl, rfl, f3, f4, f5⟩
      have hNS := HN.out.call f5 f4
      have HR0 := Lib.hid (Rd.snoc (Rd.zero o1) f3)
      have c0 := hNS.bx.c0; have c1 := hNS.bx.c1; have c2 := hNS.bx.c2; have c3 := hNS.bx.c3; have c4 := hNS.bx.c4; have c5 := hNS.bx.c5
      have y0 := hNS.bx.fr 0; have y1 := hNS.bx.fr 1; have y2 := hNS.bx.fr 2; have y3 := hNS.bx.fr 3; have y4 := hNS.bx.fr 4; have y5 := hNS.bx.fr 5
      have u0 := hNS.rs.c0; have u1 := hNS.rs.c1; have u2 := hNS.rs.c2; have u3 := hNS.rs.c3; have u4 := hNS.rs.c4; have u5 := hNS.rs.c5
      have x0 := hNS.rs.fr 0; have x1 := hNS.rs.fr 1; have x2 := hNS.rs.fr 2; have x3 := hNS.rs.fr 3; have x4 := hNS.rs.fr 4; have x5 := hNS.rs.fr 5
      have HN0 := Lib.hid (hNS.set1 (.int .i64 a1))
      obtain ⟨t1, ht1⟩ : ∃ t1, v1.setCell ⟨z, 1, none⟩ (.int .i64 a1) = t1 := ⟨_, rfl⟩
      have HW0 := Lib.hid ht1
      rw [ht1] at HN0
      clear ht1 f3 f4 f5 hNS
      go_wp2_with fail
      rw [HW0.out]
      clear c0 c1 c2 c3 c4 c5 y0 y1 y2 y3 y4 y5 u0 u1 u2 u3 u4 u5 x0 x1 x2 x3 x4 x5
      have HC1 := Lib.hid (rfint_ok p (plus X w) q1 t1 HN0.out.rf HXP.out)
      refine HC1.out.mono ?_
      rintro e v2 ⟨a2, v, q2, rfl, rfl, f3, f4, f5⟩
      have hNS := HN0.out.call f5 f4
      have HR1 := Lib.hid (Rd.snoc HR0.out f3)
      have c0 := hNS.bx.c0; have c1 := hNS.bx.c1; have c2 := hNS.bx.c2; have c3 := hNS.bx.c3; have c4 := hNS.bx.c4; have c5 := hNS.bx.c5
      have y0 := hNS.bx.fr 0; have y1 := hNS.bx.fr 1; have y2 := hNS.bx.fr 2; have y3 := hNS.bx.fr 3; have y4 := hNS.bx.fr 4; have y5 := hNS.bx.fr 5
      have u0 := hNS.rs.c0; have u1 := hNS.rs.c1; have u2 := hNS.rs.c2; have u3 := hNS.rs.c3; have u4 := hNS.rs.c4; have u5 := hNS.rs.c5
      have x0 := hNS.rs.fr 0; have x1 := hNS.rs.fr 1; have x2 := hNS.rs.fr 2; have x3 := hNS.rs.fr 3; have x4 := hNS.rs.fr 4; have x5 := hNS.rs.fr 5
      have HN1 := Lib.hid (hNS.set2 (.int .i64 a2))
      obtain ⟨t2, ht2⟩ : ∃ t2, v2.setCell ⟨z, 2, none⟩ (.int .i64 a2) = t2 := ⟨_, rfl⟩
      have HW1 := Lib.hid ht2
      rw [ht2] at HN1
      clear ht2 f3 f4 f5 hNS
      go_wp2_with fail
      rw [HW1.out]
      clear c0 c1 c2 c3 c4 c5 y0 y1 y2 y3 y4 y5 u0 u1 u2 u3 u4 u5 x0 x1 x2 x3 x4 x5
      have HC2 := Lib.hid (rfint_ok p (plus X w) q2 t2 HN1.out.rf HXP.out)
      refine HC2.out.mono ?_
      rintro e v3 ⟨a3, v, q3, rfl, rfl, f3, f4, f5⟩
      have hNS := HN1.out.call f5 f4
      have HR2 := Lib.hid (Rd.snoc HR1.out f3)
      have c0 := hNS.bx.c0; have c1 := hNS.bx.c1; have c2 := hNS.bx.c2; have c3 := hNS.bx.c3; have c4 := hNS.bx.c4; have c5 := hNS.bx.c5
      have y0 := hNS.bx.fr 0; have y1 := hNS.bx.fr 1; have y2 := hNS.bx.fr 2; have y3 := hNS.bx.fr 3; have y4 := hNS.bx.fr 4; have y5 := hNS.bx.fr 5
      have u0 := hNS.rs.c0; have u1 := hNS.rs.c1; have u2 := hNS.rs.c2; have u3 := hNS.rs.c3; have u4 := hNS.rs.c4; have u5 := hNS.rs.c5
      have x0 := hNS.rs.fr 0; have x1 := hNS.rs.fr 1; have x2 := hNS.rs.fr 2; have x3 := hNS.rs.fr 3; have x4 := hNS.rs.fr 4; have x5 := hNS.rs.fr 5
      have HN2 := Lib.hid (hNS.set3 (.int .i64 a3))
      obtain ⟨t3, ht3⟩ : ∃ t3, v3.setCell ⟨z, 3, none⟩ (.int .i64 a3) = t3 := ⟨_, rfl⟩
      have HW2 := Lib.hid ht3
      rw [ht3] at HN2
      clear ht3 f3 f4 f5 hNS
      go_wp2_with fail
      rw [HW2.out]
      clear c0 c1 c2 c3 c4 c5 y0 y1 y2 y3 y4 y5 u0 u1 u2 u3 u4 u5 x0 x1 x2 x3 x4 x5
      have HC3 := Lib.hid (rfint_ok p (plus X w) q3 t3 HN2.out.rf HXP.out)
      refine HC3.out.mono ?_
      rintro e v4 ⟨a4, v, q4, rfl, rfl, f3, f4, f5⟩
      have hNS := HN2.out.call f5 f4
      have HR3 := Lib.hid (Rd.snoc HR2.out f3)
      have c0 := hNS.bx.c0; have c1 := hNS.bx.c1; have c2 := hNS.bx.c2; have c3 := hNS.bx.c3; have c4 := hNS.bx.c4; have c5 := hNS.bx.c5
      have y0 := hNS.bx.fr 0; have y1 := hNS.bx.fr 1; have y2 := hNS.bx.fr 2; have y3 := hNS.bx.fr 3; have y4 := hNS.bx.fr 4; have y5 := hNS.bx.fr 5
      have u0 := hNS.rs.c0; have u1 := hNS.rs.c1; have u2 := hNS.rs.c2; have u3 := hNS.rs.c3; have u4 := hNS.rs.c4; have u5 := hNS.rs.c5
      have x0 := hNS.rs.fr 0; have x1 := hNS.rs.fr 1; have x2 := hNS.rs.fr 2; have x3 := hNS.rs.fr 3; have x4 := hNS.rs.fr 4; have x5 := hNS.rs.fr 5
      have HN3 := Lib.hid (hNS.set4 (.int .i64 a4))
      obtain ⟨t4, ht4⟩ : ∃ t4, v4.setCell ⟨z, 4, none⟩ (.int .i64 a4) = t4 := ⟨_, rfl⟩
      have HW3 := Lib.hid ht4
      rw [ht4] at HN3
      clear ht4 f3 f4 f5 hNS
      have n0 := HN3.out.bx.c0; have n1 := HN3.out.bx.c1; have n2 := HN3.out.bx.c2; have n3 := HN3.out.bx.c3; have n4 := HN3.out.bx.c4; have n5 := HN3.out.bx.c5
      have m0 := HN3.out.rs.c0; have m1 := HN3.out.rs.c1; have m2 := HN3.out.rs.c2; have m3 := HN3.out.rs.c3; have m4 := HN3.out.rs.c4; have m5 := HN3.out.rs.c5
      rw [← HW3.out] at n0 n1 n2 n3 n4 n5 m0 m1 m2 m3 m4 m5
      clear c0 c1 c2 c3 c5 u0 u1 u2 u3 u4 u5
      have u0 := m0; have u1 := m1; have u2 := m2; have u3 := m3; have u4 := m4; have u5 := m5
      go_wp2_with fail
      refine (show bodyPost Try.prog Try.f89 (RQ rNode NV X p o w) Exit.ret _ (lay6 (v4.setCell ⟨z, 4, none⟩ (.int .i64 a4)) g (.int .i64 k) (.int .i64 a1) (.int .i64 a2) (.int .i64 a3) (.int .i64 a4) (.slice none 0 0)) from ?_)
      obtain ⟨l0, l1, l2, l3, l4, l5⟩ := lay6_cells (a := (.int .i64 k)) (b := (.int .i64 a1)) (c := (.int .i64 a2)) (d := (.int .i64 a3)) (e := (.int .i64 a4)) (f := (.slice none 0 0)) u0 u1 u2 u3 u4 u5
      have hL := lay6_kx (v4.setCell ⟨z, 4, none⟩ (.int .i64 a4)) g (.int .i64 k) (.int .i64 a1) (.int .i64 a2) (.int .i64 a3) (.int .i64 a4) (.slice none 0 0)
      generalize lay6 (v4.setCell ⟨z, 4, none⟩ (.int .i64 a4)) g (.int .i64 k) (.int .i64 a1) (.int .i64 a2) (.int .i64 a3) (.int .i64 a4) (.slice none 0 0) = w9 at *
      simp [bodyPost, results, Try.results89, go_sem, l0, l1, l2, l3, l4, l5]
      rw [HW3.out] at hL
      have hfin := NS.close (s := nd1 [a1, a2, a3, a4]) (by have := HN3.out; rw [HKE.out] at this; exact this) hL (UO.none t4) (out_node HO.out (by rw [HKE.out]; exact outK1 HR3.out))
      rw [HKE.out]; exact hfin
    · by_cases hk2 : k = 2
      · have t0 : (k == 0) = false := by rw [beq_eq_false_iff_ne]; exact hk0
        have t1 : (k == 1) = false := by rw [beq_eq_false_iff_ne]; exact hk1
        have t : (k == 2) = true := by rw [beq_iff_eq]; exact hk2
        have HKE := Lib.hid hk2
        clear hk0 hk1 hk2
        go_wp2_with fail
        rw [HWN.out]
        have HC0 := Lib.hid (rfint_ok p (plus X w) o1 wn HN.out.rf HXP.out)
        refine HC0.out.mono ?_
        rintro e v1 ⟨a1, v, q1, rfl, rfl, f3, f4, f5⟩
        have hNS := HN.out.call f5 f4
        have HR0 := Lib.hid (Rd.snoc (Rd.zero o1) f3)
        have c0 := hNS.bx.c0; have c1 := hNS.bx.c1; have c2 := hNS.bx.c2; have c3 := hNS.bx.c3; have c4 := hNS.bx.c4; have c5 := hNS.bx.c5
        have y0 := hNS.bx.fr 0; have y1 := hNS.bx.fr 1; have y2 := hNS.bx.fr 2; have y3 := hNS.bx.fr 3; have y4 := hNS.bx.fr 4; have y5 := hNS.bx.fr 5
        have u0 := hNS.rs.c0; have u1 := hNS.rs.c1; have u2 := hNS.rs.c2; have u3 := hNS.rs.c3; have u4 := hNS.rs.c4; have u5 := hNS.rs.c5
        have x0 := hNS.rs.fr 0; have x1 := hNS.rs.fr 1; have x2 := hNS.rs.fr 2; have x3 := hNS.rs.fr 3; have x4 := hNS.rs.fr 4; have x5 := hNS.rs.fr 5
        have HN0 := Lib.hid (hNS.set2 (.int .i64 a1))
        obtain ⟨t1, ht1⟩ : ∃ t1, v1.setCell ⟨z, 2, none⟩ (.int .i64 a1) = t1 := ⟨_, rfl⟩
        have HW0 := Lib.hid ht1
        rw [ht1] at HN0
        clear ht1 f3 f4 f5 hNS
        go_wp2_with fail
        rw [HW0.out]
        clear c0 c1 c2 c3 c4 c5 y0 y1 y2 y3 y4 y5 u0 u1 u2 u3 u4 u5 x0 x1 x2 x3 x4 x5
        have HC1 := Lib.hid (rfint_ok p (plus X w) q1 t1 HN0.out.rf HXP.out)
        refine HC1.out.mono ?_
        rintro e v2 ⟨a2, v, q2, rfl, rfl, f3, f4, f5⟩
        have hNS := HN0.out.call f5 f4
        have HR1 := Lib.hid (Rd.snoc HR0.out f3)
        have c0 := hNS.bx.c0; have c1 := hNS.bx.c1; have c2 := hNS.bx.c2; have c3 := hNS.bx.c3; have c4 := hNS.bx.c4; have c5 := hNS.bx.c5
        have y0 := hNS.bx.fr 0; have y1 := hNS.bx.fr 1; have y2 := hNS.bx.fr 2; have y3 := hNS.bx.fr 3; have y4 := hNS.bx.fr 4; have y5 := hNS.bx.fr 5
        have u0 := hNS.rs.c0; have u1 := hNS.rs.c1; have u2 := hNS.rs.c2; have u3 := hNS.rs.c3; have u4 := hNS.rs.c4; have u5 := hNS.rs.c5
        have x0 := hNS.rs.fr 0; have x1 := hNS.rs.fr 1; have x2 := hNS.rs.fr 2; have x3 := hNS.rs.fr 3; have x4 := hNS.rs.fr 4; have x5 := hNS.rs.fr 5
        have HN1 := Lib.hid (hNS.set4 (.int .i64 a2))
        obtain ⟨t2, ht2⟩ : ∃ t2, v2.setCell ⟨z, 4, none⟩ (.int .i64 a2) = t2 := ⟨_, rfl⟩
        have HW1 := Lib.hid ht2
        rw [ht2] at HN1
        clear ht2 f3 f4 f5 hNS
        go_wp2_with fail
        rw [HW1.out]
        clear c0 c1 c2 c3 c4 c5 y0 y1 y2 y3 y4 y5 u0 u1 u2 u3 u4 u5 x0 x1 x2 x3 x4 x5
        have HC2 := Lib.hid (rfints_ok p (plus X w) q2 t2 HN1.out.rf HXP.out)
        refine HC2.out.mono ?_
        rintro e v3 ⟨un, v, q3, rfl, ⟨B, d, rfl, hU⟩, f3, f4, f5⟩
        have hNS := HN1.out.call f5 f4
        have HR2 := Lib.hid f3
        have HN2 := Lib.hid (hNS.set5 (.slice B un.length d))
        have HU := Lib.hid (hU.k3 ((K3.refl v3).set (q := ⟨z, 5, none⟩) hNS.bx.ty (by decide) (.slice B un.length d)))
        have c0 := hNS.bx.c0; have c1 := hNS.bx.c1; have c2 := hNS.bx.c2; have c3 := hNS.bx.c3; have c4 := hNS.bx.c4; have c5 := hNS.bx.c5
        have y0 := hNS.bx.fr 0; have y1 := hNS.bx.fr 1; have y2 := hNS.bx.fr 2; have y3 := hNS.bx.fr 3; have y4 := hNS.bx.fr 4; have y5 := hNS.bx.fr 5
        have u0 := hNS.rs.c0; have u1 := hNS.rs.c1; have u2 := hNS.rs.c2; have u3 := hNS.rs.c3; have u4 := hNS.rs.c4; have u5 := hNS.rs.c5
        have x0 := hNS.rs.fr 0; have x1 := hNS.rs.fr 1; have x2 := hNS.rs.fr 2; have x3 := hNS.rs.fr 3; have x4 := hNS.rs.fr 4; have x5 := hNS.rs.fr 5
        clear f3 f4 f5 hU hNS
        have n0 := HN2.out.bx.c0; have n1 := HN2.out.bx.c1; have n2 := HN2.out.bx.c2; have n3 := HN2.out.bx.c3; have n4 := HN2.out.bx.c4; have n5 := HN2.out.bx.c5
        have m0 := HN2.out.rs.c0; have m1 := HN2.out.rs.c1; have m2 := HN2.out.rs.c2; have m3 := HN2.out.rs.c3; have m4 := HN2.out.rs.c4; have m5 := HN2.out.rs.c5
        clear c0 c1 c2 c3 c4 u0 u1 u2 u3 u4 u5
        have u0 := m0; have u1 := m1; have u2 := m2; have u3 := m3; have u4 := m4; have u5 := m5
        go_wp2_with fail
        refine (show bodyPost Try.prog Try.f89 (RQ rNode NV X p o w) Exit.ret _ (lay6 (v3.setCell ⟨z, 5, none⟩ (.slice B un.length d)) g (.int .i64 k) (.int .i64 0) (.int .i64 a1) (.int .i64 0) (.int .i64 a2) (.slice B un.length d)) from ?_)
        obtain ⟨l0, l1, l2, l3, l4, l5⟩ := lay6_cells (a := (.int .i64 k)) (b := (.int .i64 0)) (c := (.int .i64 a1)) (d := (.int .i64 0)) (e := (.int .i64 a2)) (f := (.slice B un.length d)) u0 u1 u2 u3 u4 u5
        have hL := lay6_kx (v3.setCell ⟨z, 5, none⟩ (.slice B un.length d)) g (.int .i64 k) (.int .i64 0) (.int .i64 a1) (.int .i64 0) (.int .i64 a2) (.slice B un.length d)
        generalize lay6 (v3.setCell ⟨z, 5, none⟩ (.slice B un.length d)) g (.int .i64 k) (.int .i64 0) (.int .i64 a1) (.int .i64 0) (.int .i64 a2) (.slice B un.length d) = w9 at *
        simp [bodyPost, results, Try.results89, go_sem, l0, l1, l2, l3, l4, l5]
        have hfin := NS.close (s := nd2 [a1, a2] un) (by have := HN2.out; rw [HKE.out] at this; exact this) hL HU.out (out_node HO.out (by rw [HKE.out]; exact outK2 HR1.out HR2.out))
        rw [HKE.out]; exact hfin
      · have t0 : (k == 0) = false := by rw [beq_eq_false_iff_ne]; exact hk0
        have t1 : (k == 1) = false := by rw [beq_eq_false_iff_ne]; exact hk1
        have t : (k == 2) = false := by rw [beq_eq_false_iff_ne]; exact hk2
        have HKX := Lib.hid (fun s : TN => outKX hk0 hk1 hk2 o1 s)
        clear hk0 hk1 hk2
        obtain ⟨A1, n1', c1', e0, e1, e2⟩ := HN.out.rf.cells
        have c0 := HN.out.bx.c0; have c1 := HN.out.bx.c1; have c2 := HN.out.bx.c2; have c3 := HN.out.bx.c3; have c4 := HN.out.bx.c4; have c5 := HN.out.bx.c5
        have y0 := HN.out.bx.fr 0; have y1 := HN.out.bx.fr 1; have y2 := HN.out.bx.fr 2; have y3 := HN.out.bx.fr 3; have y4 := HN.out.bx.fr 4; have y5 := HN.out.bx.fr 5
        have u0 := HN.out.rs.c0; have u1 := HN.out.rs.c1; have u2 := HN.out.rs.c2; have u3 := HN.out.rs.c3; have u4 := HN.out.rs.c4; have u5 := HN.out.rs.c5
        have x0 := HN.out.rs.fr 0; have x1 := HN.out.rs.fr 1; have x2 := HN.out.rs.fr 2; have x3 := HN.out.rs.fr 3; have x4 := HN.out.rs.fr 4; have x5 := HN.out.rs.fr 5
        rw [← HWN.out] at c0 c1 c2 c3 c4 c5 u0 u1 u2 u3 u4 u5 x0 x1 x2 x3 x4 x5 e0 e1 e2
        go_wp2_with fail
        refine (show bodyPost Try.prog Try.f89 (RQ rNode NV X p o w) Exit.ret _ (lay6 ((w1.alloc (.cells #[.int .i64 k, .int .i64 0, .int .i64 0, .int .i64 0, .int .i64 0, .slice none 0 0] 67)).setCell ⟨p, 1, none⟩ (.bool true)) g (.int .i64 k) (.int .i64 0) (.int .i64 0) (.int .i64 0) (.int .i64 0) (.slice none 0 0)) from ?_)
        rw [HWN.out]
        obtain ⟨wq, hwq⟩ : ∃ wq, wn.setCell ⟨p, 1, none⟩ (.bool true) = wq := ⟨_, rfl⟩
        have hNq : NS X w g z p none (.int .i64 k) (.int .i64 0) (.int .i64 0) (.int .i64 0) (.int .i64 0) (.slice none 0 0) wq := by
          rw [← hwq]
          exact HN.out.call ((KX.refl (· = p) wn).set ⟨p, 1, none⟩ _ (.inl rfl)) (RF.mark (o' := none) HN.out.rf HXP.out (.inl rfl))
        rw [hwq]
        have hL := lay6_kx wq g (.int .i64 k) (.int .i64 0) (.int .i64 0) (.int .i64 0) (.int .i64 0) (.slice none 0 0)
        have hB6 := hNq.rs.lay (a := .int .i64 k) (b := .int .i64 0) (c := .int .i64 0) (d := .int .i64 0) (e := .int .i64 0) (f := .slice none 0 0)
        generalize lay6 wq g (.int .i64 k) (.int .i64 0) (.int .i64 0) (.int .i64 0) (.int .i64 0) (.slice none 0 0) = w9 at *
        have l0 := hB6.c0; have l1 := hB6.c1; have l2 := hB6.c2; have l3 := hB6.c3; have l4 := hB6.c4; have l5 := hB6.c5
        simp [bodyPost, results, Try.results89, go_sem, l0, l1, l2, l3, l4, l5]
        exact NS.close (s := ⟨k, 0, 0, 0, 0, []⟩) hNq hL (UO.none wq) (out_node HO.out (HKX.out _))
end Go.Proofs.Ytjebmmmjjiomfaa

