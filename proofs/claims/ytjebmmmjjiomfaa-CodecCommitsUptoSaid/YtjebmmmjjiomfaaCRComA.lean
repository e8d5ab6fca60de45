/- The walks of a reader's path nodes and proposals (one round each). The walk of a reader's proposals (one round). The walk of a path's reader. The walk of codec.TakeCommit. -/
import Derived.Test.YtjebmmmjjiomfaaCRWel
import Derived.Test.YtjebmmmjjiomfaaCMem
namespace Go.Proofs.Ytjebmmmjjiomfaa
open Go.RowKit

theorem E68 : Elem Try.prog 68 111 (.agg #[.int .i64 0, .slice none 0 0]) 2 32 := ⟨Try.underlying68, by kernel_rfl, rfl, by omega⟩
theorem E64 : Elem Try.prog 64 109 (.agg #[.int .i64 0, .int .i64 0, .int .i64 0, .int .i64 0, .int .i64 0, .int .i64 0, .int .i64 0, .slice none 0 0, .int .i64 0, .int .i64 0]) 10 96 := ⟨Try.underlying64, by kernel_rfl, rfl, by omega⟩
def ql (s : PN) (B : Option Addr) (d : Nat) : List Value := [.int .i64 s.enc, .slice B s.seals.length d]
def QE (w : World) (s : PN) (v : List Value) : Prop := ∃ B d, v = ql s B d ∧ UO w B s.seals.length d s.seals
theorem QE.k3 {w w' : World} (k : K3 w w') (s : PN) (v : List Value) (h : QE w s v) : QE w' s v := by
  obtain ⟨B, d, h1, h2⟩ := h; exact ⟨B, d, h1, h2.k3 k⟩
theorem QE.len (w : World) (s : PN) (v : List Value) (h : QE w s v) : v.length = 2 := by obtain ⟨B, d, rfl, _⟩ := h; rfl
theorem ql_one (s : PN) (B : Option Addr) (d : Nat) : ∀ u ∈ ql s B d, u.oneCell' = true := by
  intro u hu
  simp [ql] at hu
  rcases hu with rfl | rfl <;> rfl
def pl (s : PR) (B : Option Addr) (d : Nat) : List Value := [.int .i64 s.k, .int .i64 s.from_, .int .i64 s.leaf.k, .int .i64 s.leaf.id, .int .i64 s.leaf.enc, .int .i64 s.leaf.sig, .int .i64 s.leaf.hash, .slice B s.leaf.un.length d, .int .i64 s.at_, .int .i64 s.term]
def PE (w : World) (s : PR) (v : List Value) : Prop := ∃ B d, v = pl s B d ∧ UO w B s.leaf.un.length d s.leaf.un
theorem PE.k3 {w w' : World} (k : K3 w w') (s : PR) (v : List Value) (h : PE w s v) : PE w' s v := by
  obtain ⟨B, d, h1, h2⟩ := h; exact ⟨B, d, h1, h2.k3 k⟩
theorem PE.len (w : World) (s : PR) (v : List Value) (h : PE w s v) : v.length = 10 := by obtain ⟨B, d, rfl, _⟩ := h; rfl
theorem pl_one (s : PR) (B : Option Addr) (d : Nat) : ∀ u ∈ pl s B d, u.oneCell' = true := by
  intro u hu
  simp [pl] at hu
  rcases hu with rfl | rfl | rfl | rfl | rfl | rfl | rfl | rfl | rfl | rfl <;> rfl
def qf0 : Nat → Value
  | 0 => .int .i64 0 | _ => .slice none 0 0
def pf0 : Nat → Value
  | 7 => .slice none 0 0 | _ => .int .i64 0
theorem rPN_1 {l : List UInt8} (h : rIs 1 l = none) : rPN l = none := by unfold rPN; rw [rIs_one1_none h]; rfl
theorem rPN_2 {l r : List UInt8} {a : Int} (h : rIs 1 l = some ([a], r)) (k : rL rI r = none) : rPN l = none := by
  obtain ⟨b, hb, h2⟩ := rIs_one1 h
  unfold rPN; rw [h2, Option.bind_some]; dsimp only; rw [k]; rfl
theorem rPN_3 {l r r2 : List UInt8} {a : Int} {un : List Int} (h : rIs 1 l = some ([a], r)) (k : rL rI r = some (un, r2)) : rPN l = some (⟨a, un⟩, r2) := by
  obtain ⟨b, hb, h2⟩ := rIs_one1 h
  injection hb with hb
  subst hb
  unfold rPN; rw [h2, Option.bind_some]; dsimp only; rw [k]; rfl
theorem list1 {ns : List Int} (h : ns.length = 1) : ∃ a, ns = [a] := by
  match ns, h with
  | [a], _ => exact ⟨a, rfl⟩
/-- what an own row and what lies in it keep through a change of blocks of other kinds -/
theorem Ow.kxT {X : Nat → Prop} {w w' : World} {base : Nat} {e : TypeId} {size : Nat} {A : Option Addr} {n c : Nat} {xs : List Value} (h : Ow w base e size A n c xs) (k : KX X w w') (hX : ∀ b, X b → ∃ T : TypeId, T ≠ e ∧ IsT w b T) : Ow w' base e size A n c xs :=
  h.kx k (fun g hg hx => by obtain ⟨T, h1, h2⟩ := hX g hx; exact (h.isT hg).ne h2 (fun q => h1 q.symm) rfl)
/-- a box, but for one cell that a loop lays -/
structure ZB (w : World) (z off n : Nat) (f : Nat → Value) (T : TypeId) : Prop where
  cell : ∀ j, j < n → j ≠ off → w.cell? ⟨z, j, none⟩ = some (f j)
  fr : ∀ j, w.frozen? ⟨z, j, none⟩ = false
  ty : IsT w z T
  bit : z < w.heap.size
theorem ZB.kx {X : Nat → Prop} {w w' : World} {z off n : Nat} {f : Nat → Value} {T : TypeId} (h : ZB w z off n f T) (k : KX X w w') (hz : ¬ X z) : ZB w' z off n f T :=
  ⟨fun j hj ho => k.cell (h.cell j hj ho) hz, fun j => k.frz (h.fr j) hz h.bit, h.ty.kx k hz, by have := h.bit; have := k.size; omega⟩
theorem ZB.set {w : World} {z off n : Nat} {f : Nat → Value} {T : TypeId} (h : ZB w z off n f T) (v : Value) : ZB (w.setCell ⟨z, off, none⟩ v) z off n f T :=
  ⟨fun j hj ho => (World.cell?_setCell_other _ _ _ _ (by intro e; injection e with _ e; exact ho e.symm)).trans (h.cell j hj ho), fun j => by rw [World.frozen?_setCell]; exact h.fr j, h.ty.set _ _, by have := h.bit; simp [World.setCell]; exact this⟩
theorem Bx.zb {w : World} {z n : Nat} {f : Nat → Value} {T : TypeId} (h : Bx w z n f T) (off : Nat) : ZB w z off n f T := ⟨fun j hj _ => h.cell j hj, h.fr, h.ty, h.bit⟩
theorem ZB.bx {w : World} {z off n : Nat} {f : Nat → Value} {T : TypeId} (h : ZB w z off n f T) {v : Value} (hv : w.cell? ⟨z, off, none⟩ = some v) : Bx w z n (fun j => if j = off then v else f j) T := by
  refine ⟨fun j hj => ?_, h.fr, h.ty, h.bit⟩
  by_cases e : j = off
  · subst e; rw [if_pos rfl]; exact hv
  · rw [if_neg e]; exact h.cell j hj e
theorem IE.closeZ {α : Type} {f : List UInt8 → Option (α × List UInt8)} {E : World → α → List Value → Prop} {t T : TypeId} {m z off q nz : Nat} {fz : Nat → Value} {w1 w2 w4 : World} {acc : List α} {l r : List UInt8} {s : α} {o : Obj} {cs v : List Value} {A A4 : Option Addr} {c c4 : Nat} {u : Value}
    (hq : q + 1 = w1.heap.size) (hzq : z < q) (hK : KX (zq z q) w1 w2) (hR : RD (zo z q) w2 q r) (hE : Els E w2 acc cs) (hs : E w2 s v) (hEk : ∀ a b, K3 a b → ∀ s v, E a s v → E b s v) (hO : Ow w2 (q + 1) t m A acc.length c cs) (ht : t ≠ 3)
    (hO4 : Ow w4 (q + 1) t m A4 (acc.length + 1) c4 (cs ++ v)) (hG4 : (w2.alloc o).grownBy w4 (Value.slice A acc.length c).ownBlock) (hB4 : Below (q + 1) (w2.alloc o) w4) (hc4 : w4.cell? ⟨z, off, none⟩ = some u) (hz4 : w4.frozen? ⟨z, off, none⟩ = false)
    (hT : ZB w2 z off nz fz T) (hT3 : T ≠ 3) (f1 : f l = some (s, r)) :
    Round f (fun q acc w => IE E t m ⟨z, off, none⟩ q acc w ∧ ZB w z off nz fz T) z q w1 acc l (.returned (.tuple #[])) (w4.setCell ⟨z, off, none⟩ (.slice A4 (acc.length + 1) c4)) := by
  have hBa : Below w2.heap.size w2 (w2.alloc o) := nxa (Below.refl _ _) _
  have hZ4 : ZB w4 z off nz fz T := (hT.kx (X := fun _ => False) (KX.of hBa) (fun e => e)).kx (KX.ofB hB4) (by omega)
  rcases IE.close hq hzq hK hR hE hs hEk hO ht hO4 hG4 hB4 hc4 hz4 hT.ty hT3 f1 with ⟨a, r', g1, g2, g3, ⟨g4, _⟩, g5⟩ | ⟨g1, _⟩
  · exact .inl ⟨a, r', g1, g2, g3, ⟨g4, hZ4.set _⟩, g5⟩
  · rw [f1] at g1; cases g1
set_option maxRecDepth 100000 in
set_option maxHeartbeats 4000000 in
/-- path$1 of the reader -/
theorem rpath1_ok (nz : Nat) (fz : Nat → Value) (z q : Nat) (acc : List PN) (l : List UInt8) (w1 wr : World) (hq : q + 1 = w1.heap.size) (hzq : z < q) (hK : KX (zq z q) w1 wr) (hR : RD (zo z q) wr q l) (hz : ZB wr z 6 nz fz 70) (hI : IE QE 111 2 ⟨z, 6, none⟩ q acc wr) (hN : Hid (acc.length + l.length ≤ 1073741824)) :
    Calls Try.prog 113 #[.pointer (some ⟨q, 0, none⟩), .pointer (some ⟨z, 0, none⟩)] wr (Round rPN (fun q acc w => IE QE 111 2 ⟨z, 6, none⟩ q acc w ∧ ZB w z 6 nz fz 70) z q w1 acc l) := by
  have hbit := hR.bit
  obtain ⟨A, c, cs, c1, z1, hO, hE⟩ := hI
  have hTq : IsT wr q 132 := by obtain ⟨_, _, _, _, _, h⟩ := hR; exact h
  have hzw : z < wr.heap.size := World.block_lt_of_cell? _ _ c1
  obtain ⟨g, hg⟩ : ∃ g, wr.heap.size = g := ⟨_, rfl⟩
  obtain ⟨wa, hwa⟩ : ∃ wa, wr.alloc (.cells #[.int .i64 0, .slice none 0 0] 111) = wa := ⟨_, rfl⟩
  have hza : wa.heap.size = g + 1 := by rw [← hwa]; simp [hg]
  have hBa : Below wr.heap.size wr wa := by rw [← hwa]; exact nxa (Below.refl _ _) _
  have hbx : Bx wa g 2 qf0 111 := Bx.of (by rw [← hwa, ← hg]; exact heap_alloc_new _ _) (fun j hj => by
    match j, hj with
    | 0, _ => rfl | 1, _ => rfl
    | j + 2, h => exact absurd h (by omega))
  have hRa : RD (zo z q) wa q l := hR.kx (Y := fun _ => False) (KX.of hBa) (fun _ e _ => e.elim) (fun e => e)
  have HC := Lib.hid (rintsB [0] 1 #[.pointer (some ⟨g, 0, none⟩)] rfl rfl (by omega) hRa (.inr (Nat.le_refl _)) (.inr (by omega)) (by omega) hbx (fun j hj => by simp at hj; subst hj; exact ⟨by omega, 0, rfl⟩) (by decide))
  rw [hza] at HC
  have HKa := Lib.hid (hK.past (hBa.mono (by have := hK.size; omega)))
  have c1a := (KX.of (X := fun _ => False) hBa).cell c1 (fun e => e)
  have z1a := (KX.of (X := fun _ => False) hBa).frz z1 (fun e => e) hzw
  have HGO : Hid (∀ i, A = some ⟨i, 0, none⟩ → q + 1 ≤ i ∧ i < g) := Lib.hid (fun i e => by have := hO.inb e; omega)
  have HO := Lib.hid (hO.below hBa); have HE := Lib.hid (hE.keep (QE.k3 (K3.of hBa))); have HWA := Lib.hid hwa
  have HTQ := Lib.hid (hTq.kx (X := fun _ => False) (KX.of hBa) (fun e => e)); have HZT := Lib.hid (hz.kx (X := fun _ => False) (KX.of hBa) (fun e => e)); have HTG := Lib.hid hbx.ty
  have HRL := Lib.hid hza
  have hga : g < wa.heap.size := by omega
  clear hwa hBa hbx hRa hK hR hz hO hE hTq c1 z1 hza
  go_enter Try.func113, Try.ntmps113
  go_wp2_with fail
  rw [HWA.out]
  refine HC.out.mono ?_
  rintro e w2 (⟨ns, r, f1, rfl, f3, f4, f5⟩ | ⟨f1, rfl, f3⟩)
  · obtain ⟨a, rfl⟩ := list1 (rIs_less f1).2
    have hrl := (rIs_less f1).1
    have HT := Lib.hid (rlist_ok q (zo z q) r w2 f3 (.inr (Nat.le_refl _)) (Lib.hid (by have := hN.out; omega)))
    have HB1 := Lib.hid f4; have HK2 := Lib.hid f5; have H1 := Lib.hid f1
    clear f1 f3 f4 f5
    go_wp2_with fail
    refine HT.out.mono ?_
    rintro e w3 (⟨un, r2, v, h1, rfl, ⟨B, d, rfl, hU⟩, h4, h5⟩ | ⟨h1, rfl, h3⟩)
    · have hb3 := HB1.out.kx h5 (by omega)
      have y1 := hb3.cell 1 (by omega)
      have x1 := hb3.fr 1
      have hb4 := hb3.set (j := 1) (by omega) (.slice B un.length d)
      obtain ⟨w4, hw4⟩ : ∃ w4, w3.setCell ⟨g, 1, none⟩ (.slice B un.length d) = w4 := ⟨_, rfl⟩
      rw [hw4] at hb4
      have hK34 : KX (· = g) w3 w4 := by rw [← hw4]; exact (KX.refl (· = g) w3).set ⟨g, 1, none⟩ _ (.inl rfl)
      have hKa4 : KX (zq g q) wa w4 := (HK2.out.trans (h5.mono (fun i e => .inr e))).trans (hK34.mono (fun i e => .inl e))
      have hU4 : UO w4 B un.length d un := hU.k3 (K3.kx hK34 (fun b e => ⟨111, by decide, by subst e; exact hb3.ty⟩))
      have hX4 : ∀ b, zq g q b → ∃ T : TypeId, T ≠ 3 ∧ IsT wa b T := fun b e => by
        rcases e with e | e
        · subst e; exact ⟨111, by decide, HTG.out⟩
        · subst e; exact ⟨132, by decide, HTQ.out⟩
      have hE4 := HE.out.keep (QE.k3 (K3.kx hKa4 hX4))
      have hO4 := HO.out.kx hKa4 (fun i e => by have := HGO.out i e; show ¬ (i = g ∨ i = q); omega)
      have cz := hKa4.cell c1a (by show ¬ (z = g ∨ z = q); omega)
      have zz := hKa4.frz z1a (by show ¬ (z = g ∨ z = q); omega) (World.block_lt_of_cell? _ _ c1a)
      have hR4 : RD (zo z q) w4 q r2 := h4.kx hK34 (fun i e _ => .inr (by omega)) (by omega)
      have hK4 : KX (zq z q) w1 w4 := HKa.out.next hKa4 (fun i e => by rcases e with e | e; exact .inr (by have := HKa.out.size; have := HRL.out; omega); exact .inl (.inr e))
      have hT4 : ZB w4 z 6 nz fz 70 := HZT.out.kx hKa4 (by omega)
      have HR4 := Lib.hid hR4; have HK4 := Lib.hid hK4; have HT4 := Lib.hid hT4; have HE4 := Lib.hid hE4; have HU4 := Lib.hid hU4; have HO4 := Lib.hid hO4; have HW4 := Lib.hid hw4; have H2 := Lib.hid h1
      have g0 := hb4.cell 0 (by omega); have g1 := hb4.cell 1 (by omega)
      have hsz : w4.heap.size = w3.heap.size := by rw [← hw4]; simp [World.setCell]
      have hly : Lies (w4.alloc (.cells #[.int .i64 a, .slice B un.length d] 111)) (some ⟨w3.heap.size, 0, none⟩) (ql ⟨a, un⟩ B d) := by
        have := lies_cells w4 #[.int .i64 a, .slice B un.length d] 111
        rw [hsz] at this
        exact this
      have hOa := hO4.alloc (.cells #[.int .i64 a, .slice B un.length d] 111)
      have hb2 : q + 1 ≤ (w4.alloc (.cells #[.int .i64 a, .slice B un.length d] 111)).heap.size := by have := hR4.bit; simp; omega
      have hBal : Below w4.heap.size w4 (w4.alloc (.cells #[.int .i64 a, .slice B un.length d] 111)) := nxa (Below.refl _ _) _
      have cza := (KX.of (X := fun _ => False) hBal).cell cz (fun e => e)
      have zza := (KX.of (X := fun _ => False) hBal).frz zz (fun e => e) (World.block_lt_of_cell? _ _ cz)
      have HCZ := Lib.hid cza; have HZZ := Lib.hid zza; have HOA := Lib.hid hOa; have HLY := Lib.hid hly; have HB2 := Lib.hid hb2
      rw [← hw4] at cz g0 g1
      clear h1 h4 h5 hU hb3 hb4 hK34 hKa4 hU4 hX4 hE4 hO4 hR4 hK4 hT4 hw4 hsz hly hOa hb2 hBal cza zza zz
      go_wp2_with (at_builtin; rw [HW4.out]; refine wpList_app (o := ⟨some 15, _, _, _, _, _⟩) E68 rfl rfl rfl HOA.out rfl HLY.out rfl (ql_one ⟨a, un⟩ B d) (by have := hN.out; unfold maxLen; omega) (by have := hN.out; omega) HB2.out ?_; intro A5 c5 w5 hO5 hG5 hB5; have c6 := (hB5.cell (p := ⟨z, 6, none⟩) (show z < q + 1 by omega)).trans HCZ.out; have z6 := (hB5.frozen (p := ⟨z, 6, none⟩) (show z < q + 1 by omega)).trans HZZ.out)
      simp +zetaDelta [bodyPost, results, Try.results113]
      exact IE.closeZ hq hzq HK4.out HR4.out HE4.out ⟨B, d, rfl, HU4.out⟩ (fun _ _ => QE.k3) HO4.out (by decide) hO5 hG5 hB5 c6 z6 HT4.out (by decide) (rPN_3 H1.out H2.out)
    · simp +zetaDelta [bodyPost]
      exact .inr ⟨rPN_2 H1.out h1, rfl, (HKa.out.next HK2.out (fun i e => by rcases e with e | e; exact .inr (by have := HKa.out.size; have := HRL.out; omega); exact .inl (.inr e))).trans (h3.mono (fun i e => .inr e))⟩
  · simp +zetaDelta [bodyPost]
    exact .inr ⟨rPN_1 f1, rfl, HKa.out.next f3 (fun i e => by rcases e with e | e; exact .inr (by have := HKa.out.size; have := HRL.out; omega); exact .inl (.inr e))⟩
theorem rProp_1 {l : List UInt8} (h : rIs 2 l = none) : rProp l = none := by unfold rProp; rw [h]; rfl
theorem rProp_2 {l r : List UInt8} {a : List Int} (h : rIs 2 l = some (a, r)) (k : rNode r = none) : rProp l = none := by
  unfold rProp; rw [h, Option.bind_some]; dsimp only; rw [k]; rfl
theorem rProp_3 {l r r2 : List UInt8} {a : List Int} {s : TN} (h : rIs 2 l = some (a, r)) (k : rNode r = some (s, r2)) (j : rIs 2 r2 = none) : rProp l = none := by
  unfold rProp; rw [h, Option.bind_some]; dsimp only; rw [k, Option.bind_some]; dsimp only; rw [j]; rfl
theorem rProp_4 {l r r2 r3 : List UInt8} {a b c d : Int} {s : TN} (h : rIs 2 l = some ([a, b], r)) (k : rNode r = some (s, r2)) (j : rIs 2 r2 = some ([c, d], r3)) : rProp l = some (⟨a, b, s, c, d⟩, r3) := by
  unfold rProp; rw [h, Option.bind_some]; dsimp only; rw [k, Option.bind_some]; dsimp only; rw [j]; rfl
theorem KX.lays' (w : World) (z o : Nat) (vs : List Value) : KX (· = z) w (w.setCells z o vs) := KX.sets (X := (· = z)) z (.inl rfl) vs o (KX.refl (· = z) w)
/-- a box with cells laid from an offset on -/
theorem Bx.setsAt {n : Nat} {t : TypeId} {z : Nat} : ∀ (vs : List Value) (o : Nat) {w : World} {f : Nat → Value}, Bx w z n f t → o + vs.length ≤ n → Bx (w.setCells z o vs) z n (fun j => if o ≤ j then (vs[j - o]?).getD (f j) else f j) t
  | [], o, w, f, h, hn => by
    rw [World.setCells]
    have : (fun j => if o ≤ j then (([] : List Value)[j - o]?).getD (f j) else f j) = f := by funext j; simp
    rw [this]; exact h
  | v :: vs, o, w, f, h, hn => by
    rw [World.setCells]
    have h1 := Bx.setsAt vs (o + 1) (h.set (j := o) (by simp at hn; omega) v) (by simp at hn; omega)
    have : (fun j => if o ≤ j then ((v :: vs)[j - o]?).getD (f j) else f j) = (fun j => if o + 1 ≤ j then (vs[j - (o + 1)]?).getD (if j = o then v else f j) else (if j = o then v else f j)) := by
      funext j
      by_cases h0 : j = o
      · subst h0; rw [if_pos (Nat.le_refl _), if_neg (by omega), if_pos rfl]; simp
      · by_cases h2 : o + 1 ≤ j
        · rw [if_pos (by omega), if_pos h2, if_neg h0]
          obtain ⟨i, hi⟩ : ∃ i, j - o = i + 1 := ⟨j - o - 1, by omega⟩
          rw [hi, show j - (o + 1) = i by omega, List.getElem?_cons_succ]
        · rw [if_neg (by omega), if_neg h2, if_neg h0]
    rw [this]; exact h1
set_option maxRecDepth 100000 in
set_option maxHeartbeats 8000000 in
/-- one round of TakeCommit's proposals -/
theorem rprop1_ok (nz : Nat) (fz : Nat → Value) (z q : Nat) (acc : List PR) (l : List UInt8) (w1 wr : World) (hq : q + 1 = w1.heap.size) (hzq : z < q) (hK : KX (zq z q) w1 wr) (hR : RD (zo z q) wr q l) (hz : ZB wr z 2 nz fz 72) (hI : IE PE 109 10 ⟨z, 2, none⟩ q acc wr) (hN : Hid (acc.length + l.length ≤ 1073741824)) :
    Calls Try.prog 83 #[.pointer (some ⟨q, 0, none⟩), .pointer (some ⟨z, 0, none⟩)] wr (Round rProp (fun q acc w => IE PE 109 10 ⟨z, 2, none⟩ q acc w ∧ ZB w z 2 nz fz 72) z q w1 acc l) := by
  have hbit := hR.bit
  obtain ⟨A, c, cs, c1, z1, hO, hE⟩ := hI
  have hTq : IsT wr q 132 := by obtain ⟨_, _, _, _, _, h⟩ := hR; exact h
  have hzw : z < wr.heap.size := World.block_lt_of_cell? _ _ c1
  obtain ⟨g, hg⟩ : ∃ g, wr.heap.size = g := ⟨_, rfl⟩
  obtain ⟨wa, hwa⟩ : ∃ wa, wr.alloc (.cells #[.int .i64 0, .int .i64 0, .int .i64 0, .int .i64 0, .int .i64 0, .int .i64 0, .int .i64 0, .slice none 0 0, .int .i64 0, .int .i64 0] 109) = wa := ⟨_, rfl⟩
  have hza : wa.heap.size = g + 1 := by rw [← hwa]; simp [hg]
  have hBa : Below wr.heap.size wr wa := by rw [← hwa]; exact nxa (Below.refl _ _) _
  have hbx : Bx wa g 10 pf0 109 := Bx.of (by rw [← hwa, ← hg]; exact heap_alloc_new _ _) (fun j hj => by
    match j, hj with
    | 0, _ => rfl | 1, _ => rfl | 2, _ => rfl | 3, _ => rfl | 4, _ => rfl | 5, _ => rfl | 6, _ => rfl | 7, _ => rfl | 8, _ => rfl | 9, _ => rfl
    | j + 10, h => exact absurd h (by omega))
  have hRa : RD (zo z q) wa q l := hR.kx (Y := fun _ => False) (KX.of hBa) (fun _ e _ => e.elim) (fun e => e)
  have HC := Lib.hid (rintsB [0, 1] 2 #[.pointer (some ⟨g, 0, none⟩), .pointer (some ⟨g, 1, none⟩)] rfl rfl (by omega) hRa (.inr (Nat.le_refl _)) (.inr (by omega)) (by omega) hbx (fun j hj => by simp at hj; rcases hj with rfl | rfl <;> exact ⟨by omega, 0, rfl⟩) (by decide))
  rw [hza] at HC
  have HKa := Lib.hid (hK.past (hBa.mono (by have := hK.size; omega)))
  have c1a := (KX.of (X := fun _ => False) hBa).cell c1 (fun e => e)
  have z1a := (KX.of (X := fun _ => False) hBa).frz z1 (fun e => e) hzw
  have HGO : Hid (∀ i, A = some ⟨i, 0, none⟩ → q + 1 ≤ i ∧ i < g) := Lib.hid (fun i e => by have := hO.inb e; omega)
  have HO := Lib.hid (hO.below hBa); have HE := Lib.hid (hE.keep (PE.k3 (K3.of hBa))); have HWA := Lib.hid hwa
  have HTQ := Lib.hid (hTq.kx (X := fun _ => False) (KX.of hBa) (fun e => e)); have HZT := Lib.hid (hz.kx (X := fun _ => False) (KX.of hBa) (fun e => e)); have HTG := Lib.hid hbx.ty
  have HRL := Lib.hid hza
  have hga : g < wa.heap.size := by omega
  clear hwa hBa hbx hRa hK hR hz hO hE hTq c1 z1 hza
  go_enter Try.func83, Try.ntmps83
  go_wp2_with fail
  rw [HWA.out]
  refine HC.out.mono ?_
  rintro e w2 (⟨ns, r, f1, rfl, f3, f4, f5⟩ | ⟨f1, rfl, f3⟩)
  · obtain ⟨a, b, rfl⟩ := list2 (rIs_less f1).2
    have hrl := (rIs_less f1).1
    have HT := Lib.hid (rnode_ok q (zo z q) r w2 f3 (.inr (Nat.le_refl _)) (Lib.hid (by have := hN.out; omega)))
    have HB1 := Lib.hid f4; have HK2 := Lib.hid f5; have H1 := Lib.hid f1
    clear f1 f3 f4 f5
    go_wp2_with fail
    refine HT.out.mono ?_
    rintro e w3 (⟨s, r2, v, h1, rfl, ⟨B, d, rfl, hU⟩, h4, h5⟩ | ⟨h1, rfl, h3⟩)
    · have hb3 := HB1.out.kx h5 (by omega)
      have y2 := hb3.cell 2 (by omega); have y3 := hb3.cell 3 (by omega); have y4 := hb3.cell 4 (by omega); have y5 := hb3.cell 5 (by omega); have y6 := hb3.cell 6 (by omega); have y7 := hb3.cell 7 (by omega)
      have x2 := hb3.fr 2; have x3 := hb3.fr 3; have x4 := hb3.fr 4; have x5 := hb3.fr 5; have x6 := hb3.fr 6; have x7 := hb3.fr 7
      have hb4 := hb3.setsAt [.int .i64 s.k, .int .i64 s.id, .int .i64 s.enc, .int .i64 s.sig, .int .i64 s.hash, .slice B s.un.length d] 2 (by simp)
      obtain ⟨w4, hw4⟩ : ∃ w4, (((((w3.setCell ⟨g, 2, none⟩ (.int .i64 s.k)).setCell ⟨g, 3, none⟩ (.int .i64 s.id)).setCell ⟨g, 4, none⟩ (.int .i64 s.enc)).setCell ⟨g, 5, none⟩ (.int .i64 s.sig)).setCell ⟨g, 6, none⟩ (.int .i64 s.hash)).setCell ⟨g, 7, none⟩ (.slice B s.un.length d) = w4 := ⟨_, rfl⟩
      rw [show w3.setCells g 2 [.int .i64 s.k, .int .i64 s.id, .int .i64 s.enc, .int .i64 s.sig, .int .i64 s.hash, .slice B s.un.length d] = w4 from hw4] at hb4
      have hK34 : KX (· = g) w3 w4 := by rw [← hw4]; exact KX.lays' w3 g 2 [.int .i64 s.k, .int .i64 s.id, .int .i64 s.enc, .int .i64 s.sig, .int .i64 s.hash, .slice B s.un.length d]
      have hKa4 : KX (zq g q) wa w4 := (HK2.out.trans (h5.mono (fun i e => .inr e))).trans (hK34.mono (fun i e => .inl e))
      have hU4 : UO w4 B s.un.length d s.un := hU.k3 (K3.kx hK34 (fun b e => ⟨109, by decide, by subst e; exact hb3.ty⟩))
      have hR4 : RD (zo z q) w4 q r2 := h4.kx hK34 (fun i e _ => .inr (by omega)) (by omega)
      have hsz : w4.heap.size = w3.heap.size := by rw [← hw4]; simp [World.setCell]
      have HC2 := Lib.hid (rintsB [8, 9] 2 #[.pointer (some ⟨g, 8, none⟩), .pointer (some ⟨g, 9, none⟩)] rfl rfl (by omega) hR4 (.inr (Nat.le_refl _)) (.inr (by omega)) (by omega) hb4 (fun j hj => by simp at hj; rcases hj with rfl | rfl <;> exact ⟨by omega, 0, rfl⟩) (by decide))
      rw [hsz] at HC2
      have HTG4 := Lib.hid hb4.ty; have HTQ4 : Hid (IsT w4 q 132) := Lib.hid (by obtain ⟨_, _, _, _, _, h⟩ := hR4; exact h)
      have HKb : Hid (w1.heap.size ≤ g) := Lib.hid (by have := HKa.out.size; have := HRL.out; show _ ≤ _; omega)
      have HU4 := Lib.hid hU4; have HKA4 := Lib.hid hKa4; have HW4 := Lib.hid hw4; have H2 := Lib.hid h1
      have hr2 := rNode_less h1
      clear h1 h4 h5 hU hb3 hb4 hK34 hKa4 hU4 hR4 hw4 hsz
      unfold nv
      go_wp2_with fail
      rw [HW4.out]
      clear y2 y3 y4 y5 y6 y7 x2 x3 x4 x5 x6 x7
      refine HC2.out.mono ?_
      rintro e w5 (⟨ms, r3, g1, rfl, g3, g4, g5⟩ | ⟨g1, rfl, g3⟩)
      · obtain ⟨a2, b2, rfl⟩ := list2 (rIs_less g1).2
        have hrl3 := (rIs_less g1).1
        have hKa5 : KX (zq g q) wa w5 := HKA4.out.trans g5
        have hX : ∀ b, zq g q b → ∃ T : TypeId, T ≠ 3 ∧ IsT wa b T := fun b e => by
          rcases e with e | e
          · subst e; exact ⟨109, by decide, HTG.out⟩
          · subst e; exact ⟨132, by decide, HTQ.out⟩
        have hX4 : ∀ b, zq g q b → ∃ T : TypeId, T ≠ 3 ∧ IsT w4 b T := fun b e => by
          rcases e with e | e
          · subst e; exact ⟨109, by decide, HTG4.out⟩
          · subst e; exact ⟨132, by decide, HTQ4.out⟩
        have hU5 := HU4.out.k3 (K3.kx g5 hX4)
        have hE5 := HE.out.keep (PE.k3 (K3.kx hKa5 hX))
        have hO5 := HO.out.kx hKa5 (fun i e => by have := HGO.out i e; show ¬ (i = g ∨ i = q); omega)
        have cz := hKa5.cell c1a (by show ¬ (z = g ∨ z = q); omega)
        have zz := hKa5.frz z1a (by show ¬ (z = g ∨ z = q); omega) (World.block_lt_of_cell? _ _ c1a)
        have hK5 : KX (zq z q) w1 w5 := HKa.out.next hKa5 (fun i e => by rcases e with e | e; exact .inr (by have := HKa.out.size; have := HRL.out; omega); exact .inl (.inr e))
        have hT5 : ZB w5 z 2 nz fz 72 := HZT.out.kx hKa5 (by show ¬ (z = g ∨ z = q); omega)
        have u0 : w5.cell? ⟨g, 0, none⟩ = some (.int .i64 a) := g4.cell 0 (by omega)
        have u1 : w5.cell? ⟨g, 1, none⟩ = some (.int .i64 b) := g4.cell 1 (by omega)
        have u2 : w5.cell? ⟨g, 2, none⟩ = some (.int .i64 s.k) := g4.cell 2 (by omega)
        have u3 : w5.cell? ⟨g, 3, none⟩ = some (.int .i64 s.id) := g4.cell 3 (by omega)
        have u4 : w5.cell? ⟨g, 4, none⟩ = some (.int .i64 s.enc) := g4.cell 4 (by omega)
        have u5 : w5.cell? ⟨g, 5, none⟩ = some (.int .i64 s.sig) := g4.cell 5 (by omega)
        have u6 : w5.cell? ⟨g, 6, none⟩ = some (.int .i64 s.hash) := g4.cell 6 (by omega)
        have u7 : w5.cell? ⟨g, 7, none⟩ = some (.slice B s.un.length d) := g4.cell 7 (by omega)
        have u8 : w5.cell? ⟨g, 8, none⟩ = some (.int .i64 a2) := g4.cell 8 (by omega)
        have u9 : w5.cell? ⟨g, 9, none⟩ = some (.int .i64 b2) := g4.cell 9 (by omega)
        obtain ⟨P, hP⟩ : ∃ P : PR, (⟨a, b, s, a2, b2⟩ : PR) = P := ⟨_, rfl⟩
        obtain ⟨o, ho⟩ : ∃ o : Obj, Obj.cells #[.int .i64 a, .int .i64 b, .int .i64 s.k, .int .i64 s.id, .int .i64 s.enc, .int .i64 s.sig, .int .i64 s.hash, .slice B s.un.length d, .int .i64 a2, .int .i64 b2] 109 = o := ⟨_, rfl⟩
        have hly : Lies (w5.alloc o) (some ⟨w5.heap.size, 0, none⟩) (pl ⟨a, b, s, a2, b2⟩ B d) := by rw [← ho]; exact lies_cells w5 _ 109
        have hOa := hO5.alloc o
        have hb2 : q + 1 ≤ (w5.alloc o).heap.size := by have := g3.bit; simp; omega
        have hBal : Below w5.heap.size w5 (w5.alloc o) := nxa (Below.refl _ _) _
        have cza := (KX.of (X := fun _ => False) hBal).cell cz (fun e => e)
        have zza := (KX.of (X := fun _ => False) hBal).frz zz (fun e => e) (World.block_lt_of_cell? _ _ cz)
        have HCZ := Lib.hid cza; have HZZ := Lib.hid zza; have HOA := Lib.hid hOa; have HLY := Lib.hid hly; have HB2 := Lib.hid hb2
        have HR5 := Lib.hid g3; have HK5 := Lib.hid hK5; have HT5 := Lib.hid hT5; have HE5 := Lib.hid hE5; have HU5 := Lib.hid hU5; have HO5 := Lib.hid hO5; have H3 := Lib.hid g1; have HOO := Lib.hid ho
        clear g1 g3 g4 g5 hKa5 hX hX4 hU5 hE5 hO5 zz hK5 hT5 hly hOa hb2 hBal cza zza hP P ho
        go_wp2_with (at_builtin; rw [HOO.out]; refine wpList_app (o := ⟨some 21, _, _, _, _, _⟩) E64 rfl rfl rfl HOA.out rfl HLY.out rfl (pl_one ⟨a, b, s, a2, b2⟩ B d) (by have := hN.out; unfold maxLen; omega) (by have := hN.out; omega) HB2.out ?_; intro A5 c5 w6 hO6 hG5 hB5; have c6 := (hB5.cell (p := ⟨z, 2, none⟩) (show z < q + 1 by omega)).trans HCZ.out; have z6 := (hB5.frozen (p := ⟨z, 2, none⟩) (show z < q + 1 by omega)).trans HZZ.out)
        simp +zetaDelta [bodyPost, results, Try.results83]
        exact IE.closeZ hq hzq HK5.out HR5.out HE5.out ⟨B, d, rfl, HU5.out⟩ (fun _ _ => PE.k3) HO5.out (by decide) hO6 hG5 hB5 c6 z6 HT5.out (by decide) (rProp_4 H1.out H2.out H3.out)
      · simp +zetaDelta [bodyPost]
        exact .inr ⟨rProp_3 H1.out H2.out g1, rfl, (HKa.out.next HKA4.out (fun i e => by rcases e with e | e; exact .inr (by have := HKa.out.size; have := HRL.out; omega); exact .inl (.inr e))).next g3 (fun i e => by rcases e with e | e; exact .inr (by have := HKa.out.size; have := HRL.out; have := HKb.out; omega); exact .inl (.inr e))⟩
    · simp +zetaDelta [bodyPost]
      exact .inr ⟨rProp_2 H1.out h1, rfl, (HKa.out.next HK2.out (fun i e => by rcases e with e | e; exact .inr (by have := HKa.out.size; have := HRL.out; omega); exact .inl (.inr e))).trans (h3.mono (fun i e => .inr e))⟩
  · simp +zetaDelta [bodyPost]
    exact .inr ⟨rProp_1 f1, rfl, HKa.out.next f3 (fun i e => by rcases e with e | e; exact .inr (by have := HKa.out.size; have := HRL.out; omega); exact .inl (.inr e))⟩
theorem cf113 (args : Array Value) (w : World) : (callFunc 113 args).run Try.prog w = .ok (.enter 113 args) w := by kernel_rfl
/-- what a path's reader answers -/
def PV (a : TN × List PN) (w : World) (v : Value) : Prop := ∃ B d base A c cs, v = .agg #[.int .i64 a.1.k, .int .i64 a.1.id, .int .i64 a.1.enc, .int .i64 a.1.sig, .int .i64 a.1.hash, .slice B a.1.un.length d, .slice A a.2.length c] ∧
  UO w B a.1.un.length d a.1.un ∧ Ow w base 111 2 A a.2.length c cs ∧ Els QE w a.2 cs
def qz0 : Nat → Value
  | 5 => .slice none 0 0 | 6 => .slice none 0 0 | _ => .int .i64 0
theorem rPath_1 {l : List UInt8} (h : rNode l = none) : rPath l = none := by unfold rPath; rw [h]; rfl
theorem rPath_2 {l r : List UInt8} {s : TN} (h : rNode l = some (s, r)) (k : rL rPN r = none) : rPath l = none := by
  unfold rPath; rw [h, Option.bind_some]; dsimp only; rw [k]; rfl
theorem rPath_3 {l r r2 : List UInt8} {s : TN} {ns : List PN} (h : rNode l = some (s, r)) (k : rL rPN r = some (ns, r2)) : rPath l = some ((s, ns), r2) := by
  unfold rPath; rw [h, Option.bind_some]; dsimp only; rw [k]; rfl
set_option maxRecDepth 100000 in
set_option maxHeartbeats 8000000 in
theorem rpath_ok (p : Nat) (X : Nat → Prop) (l : List UInt8) (w : World) (h : RD X w p l) (hX : X p) (hlen : Hid (l.length ≤ 1073741824)) :
    Calls Try.prog 86 #[.pointer (some ⟨p, 0, none⟩)] w (REnd (rPath l) PV X p w) := by
  have hmf := hmfT
  have hbit := h.bit
  obtain ⟨z, hz⟩ : ∃ z, w.heap.size = z := ⟨_, rfl⟩
  obtain ⟨wz, hwz⟩ : ∃ wz, w.alloc (.cells #[.int .i64 0, .int .i64 0, .int .i64 0, .int .i64 0, .int .i64 0, .slice none 0 0, .slice none 0 0] 70) = wz := ⟨_, rfl⟩
  have hBz : Below w.heap.size w wz := by rw [← hwz]; exact nxa (Below.refl _ _) _
  have hzz : wz.heap.size = z + 1 := by rw [← hwz]; simp [hz]
  have hbx : Bx wz z 7 qz0 70 := Bx.of (by rw [← hwz, ← hz]; exact heap_alloc_new _ _) (fun j hj => by
    match j, hj with
    | 0, _ => rfl | 1, _ => rfl | 2, _ => rfl | 3, _ => rfl | 4, _ => rfl | 5, _ => rfl | 6, _ => rfl
    | j + 7, h => exact absurd h (by omega))
  have hR : RD (plus X w) wz p l := h.plus.kx (Y := fun _ => False) (KX.of hBz) (fun _ e _ => e.elim) (fun e => e)
  have HC := Lib.hid (rnode_ok p (plus X w) l wz hR (.inl hX) hlen)
  have HB := Lib.hid hBz; have HW := Lib.hid hwz; have HZ := Lib.hid hz; have HX := Lib.hid hX; have HBX := Lib.hid hbx
  have hpz : p < z := by omega
  clear hBz hwz hR hzz hbx h hX
  go_enter Try.func86, Try.ntmps86
  go_wp2_with fail
  rw [HW.out]
  refine HC.out.mono ?_
  rintro e w2 (⟨s, r, v, h1, rfl, ⟨B, d, rfl, hU⟩, h4, h5⟩ | ⟨h1, rfl, h3⟩)
  · have hb2 := HBX.out.kx h5 (by omega)
    have y0 := hb2.cell 0 (by omega); have y1 := hb2.cell 1 (by omega); have y2 := hb2.cell 2 (by omega); have y3 := hb2.cell 3 (by omega); have y4 := hb2.cell 4 (by omega); have y5 := hb2.cell 5 (by omega)
    have x0 := hb2.fr 0; have x1 := hb2.fr 1; have x2 := hb2.fr 2; have x3 := hb2.fr 3; have x4 := hb2.fr 4; have x5 := hb2.fr 5
    have hb3 := hb2.setsAt [.int .i64 s.k, .int .i64 s.id, .int .i64 s.enc, .int .i64 s.sig, .int .i64 s.hash, .slice B s.un.length d] 0 (by simp)
    obtain ⟨w3, hw3⟩ : ∃ w3, (((((w2.setCell ⟨z, 0, none⟩ (.int .i64 s.k)).setCell ⟨z, 1, none⟩ (.int .i64 s.id)).setCell ⟨z, 2, none⟩ (.int .i64 s.enc)).setCell ⟨z, 3, none⟩ (.int .i64 s.sig)).setCell ⟨z, 4, none⟩ (.int .i64 s.hash)).setCell ⟨z, 5, none⟩ (.slice B s.un.length d) = w3 := ⟨_, rfl⟩
    rw [show w2.setCells z 0 [.int .i64 s.k, .int .i64 s.id, .int .i64 s.enc, .int .i64 s.sig, .int .i64 s.hash, .slice B s.un.length d] = w3 from hw3] at hb3
    have hK23 : KX (· = z) w2 w3 := by rw [← hw3]; exact KX.lays' w2 z 0 [.int .i64 s.k, .int .i64 s.id, .int .i64 s.enc, .int .i64 s.sig, .int .i64 s.hash, .slice B s.un.length d]
    have hU3 : UO w3 B s.un.length d s.un := hU.k3 (K3.kx hK23 (fun b e => ⟨70, by decide, by subst e; exact hb2.ty⟩))
    have hR3 : RD (plus X w) w3 p r := h4.kx hK23 (fun i e _ => .inr (by have := HZ.out; omega)) (by omega)
    have hKw3 : KX (· = p) w w3 := ((KX.of (X := (· = p)) HB.out).next h5 (fun i e => .inl e)).next hK23 (fun i e => .inr (by have := HZ.out; omega))
    have hTp : IsT w3 p 132 := by obtain ⟨_, _, _, _, _, h⟩ := hR3; exact h
    obtain ⟨f3, hf3⟩ : ∃ f3, (fun j => if 0 ≤ j then (([.int .i64 s.k, .int .i64 s.id, .int .i64 s.enc, .int .i64 s.sig, .int .i64 s.hash, .slice B s.un.length d] : List Value)[j - 0]?).getD (qz0 j) else qz0 j) = f3 := ⟨_, rfl⟩
    rw [hf3] at hb3
    have hrl := rNode_less h1
    have HV := Lib.hid (rvec_ok rPN (fun _ _ _ e => rPN_less e) 113 #[.pointer (some ⟨z, 0, none⟩)] (fun q acc w => IE QE 111 2 ⟨z, 6, none⟩ q acc w ∧ ZB w z 6 7 f3 70) z p (plus X w) r w3 hR3 (.inl HX.out) (.inr (by have := HZ.out; omega)) (by omega) hb3.bit (Lib.hid (by have := hlen.out; omega)) cf113
      (fun w1 q hK hq1 hq2 => ⟨⟨none, 0, [], hK.cell (by rw [hb3.cell 6 (by omega), ← hf3]; rfl) (by show z ≠ p; omega), hK.frz (hb3.fr 6) (by show z ≠ p; omega) hb3.bit, Ow.nil _ _ _ _, rfl⟩, (hb3.zb 6).kx hK (by omega)⟩)
      (Lib.hid (fun w1 q acc l' wr hK0 hq1 hq2 hK hR hne hN hI => rpath1_ok 7 f3 z q acc l' w1 wr hq2 (by have := hb3.bit; omega) hK hR hI.2 hI.1 (Lib.hid (by have := hlen.out; omega)))))
    have HU3 := Lib.hid hU3; have HKW3 := Lib.hid hKw3; have HTP := Lib.hid hTp; have H1 := Lib.hid h1; have HW3 := Lib.hid hw3; have HF3 := Lib.hid hf3; have HTZ := Lib.hid hb3.ty
    clear h1 h4 h5 hU hb2 hb3 hK23 hU3 hR3 hKw3 hTp hw3 hf3
    unfold nv
    go_wp2_with fail
    rw [HW3.out]
    clear y0 y1 y2 y3 y4 y5 x0 x1 x2 x3 x4 x5
    refine HV.out.mono ?_
    rintro e w4 (⟨xs, r2, q, g1, rfl, g3, ⟨⟨A, c, cs, c1, z1, hO, hE⟩, hZB⟩, g5, g6⟩ | ⟨g1, rfl, g3⟩)
    · have hb4 := hZB.bx c1
      have hX4 : ∀ b, zq z p b → ∃ T : TypeId, T ≠ 3 ∧ IsT w3 b T := fun b e => by
        rcases e with e | e
        · subst e; exact ⟨70, by decide, HTZ.out⟩
        · subst e; exact ⟨132, by decide, HTP.out⟩
      have hU4 := HU3.out.k3 (K3.kx g6 hX4)
      have hK4 : KX (· = p) w w4 := HKW3.out.next g6 (fun i e => by rcases e with e | e; exact .inr (by have := HZ.out; omega); exact .inl e)
      have y0 : w4.cell? ⟨z, 0, none⟩ = some (.int .i64 s.k) := (hb4.cell 0 (by omega)).trans (by rw [← HF3.out]; rfl)
      have y1 : w4.cell? ⟨z, 1, none⟩ = some (.int .i64 s.id) := (hb4.cell 1 (by omega)).trans (by rw [← HF3.out]; rfl)
      have y2 : w4.cell? ⟨z, 2, none⟩ = some (.int .i64 s.enc) := (hb4.cell 2 (by omega)).trans (by rw [← HF3.out]; rfl)
      have y3 : w4.cell? ⟨z, 3, none⟩ = some (.int .i64 s.sig) := (hb4.cell 3 (by omega)).trans (by rw [← HF3.out]; rfl)
      have y4 : w4.cell? ⟨z, 4, none⟩ = some (.int .i64 s.hash) := (hb4.cell 4 (by omega)).trans (by rw [← HF3.out]; rfl)
      have y5 : w4.cell? ⟨z, 5, none⟩ = some (.slice B s.un.length d) := (hb4.cell 5 (by omega)).trans (by rw [← HF3.out]; rfl)
      have x0 := hb4.fr 0; have x1 := hb4.fr 1; have x2 := hb4.fr 2; have x3 := hb4.fr 3; have x4 := hb4.fr 4; have x5 := hb4.fr 5
      have hL := hb4.setsAt [.int .i64 s.k, .int .i64 s.id, .int .i64 s.enc, .int .i64 s.sig, .int .i64 s.hash, .slice B s.un.length d, .slice A xs.length c] 0 (by simp)
      have hKL := KX.lays' w4 z 0 [.int .i64 s.k, .int .i64 s.id, .int .i64 s.enc, .int .i64 s.sig, .int .i64 s.hash, .slice B s.un.length d, .slice A xs.length c]
      have HL := Lib.hid hL; have HKL := Lib.hid hKL; have HT4 := Lib.hid hb4.ty
      have HU4 := Lib.hid hU4; have HK4 := Lib.hid hK4; have G1 := Lib.hid g1; have G3 := Lib.hid g3; have HO := Lib.hid hO; have HE := Lib.hid hE
      clear hZB hb4 hX4 hU4 hK4 g1 g3 g6 hO hE hL hKL
      go_wp2_with fail
      refine (show bodyPost Try.prog Try.f86 (REnd (rPath l) PV X p w) Exit.ret _ (w4.setCells z 0 [.int .i64 s.k, .int .i64 s.id, .int .i64 s.enc, .int .i64 s.sig, .int .i64 s.hash, .slice B s.un.length d, .slice A xs.length c]) from ?_)
      generalize w4.setCells z 0 [.int .i64 s.k, .int .i64 s.id, .int .i64 s.enc, .int .i64 s.sig, .int .i64 s.hash, .slice B s.un.length d, .slice A xs.length c] = w5 at *
      have l0 : w5.cell? ⟨z, 0, none⟩ = some (.int .i64 s.k) := HL.out.cell 0 (by omega)
      have l1 : w5.cell? ⟨z, 1, none⟩ = some (.int .i64 s.id) := HL.out.cell 1 (by omega)
      have l2 : w5.cell? ⟨z, 2, none⟩ = some (.int .i64 s.enc) := HL.out.cell 2 (by omega)
      have l3 : w5.cell? ⟨z, 3, none⟩ = some (.int .i64 s.sig) := HL.out.cell 3 (by omega)
      have l4 : w5.cell? ⟨z, 4, none⟩ = some (.int .i64 s.hash) := HL.out.cell 4 (by omega)
      have l5 : w5.cell? ⟨z, 5, none⟩ = some (.slice B s.un.length d) := HL.out.cell 5 (by omega)
      have l6 : w5.cell? ⟨z, 6, none⟩ = some (.slice A xs.length c) := HL.out.cell 6 (by omega)
      simp [bodyPost, results, Try.results86, go_sem, l0, l1, l2, l3, l4, l5, l6]
      have hX5 : ∀ b, b = z → ∃ T : TypeId, T ≠ 3 ∧ IsT w4 b T := fun b e => ⟨70, by decide, by subst e; exact HT4.out⟩
      refine .inl ⟨(s, xs), r2, _, rPath_3 H1.out G1.out, rfl, ⟨B, d, _, A, c, cs, rfl, HU4.out.k3 (K3.kx HKL.out hX5), HO.out.kxT HKL.out (fun b e => ⟨70, by decide, by subst e; exact HT4.out⟩), HE.out.keep (QE.k3 (K3.kx HKL.out hX5))⟩, ?_, ?_⟩
      · exact (G3.out.kx HKL.out (fun i e _ => .inr (by have := HZ.out; omega)) (by omega)).weak (fun i _ e => .inl e)
      · exact HK4.out.next HKL.out (fun i e => .inr (by have := HZ.out; omega))
    · simp [bodyPost]
      exact .inr ⟨rPath_2 H1.out g1, rfl, HKW3.out.next g3 (fun i e => by rcases e with e | e; exact .inr (by have := HZ.out; omega); exact .inl e)⟩
  · simp [bodyPost]
    exact .inr ⟨rPath_1 h1, rfl, (KX.of (X := (· = p)) HB.out).next h3 (fun i e => .inl e)⟩
/-- a commit's cells -/
def cmf (x : CM) (P : CP) : Nat → Value
  | 0 => .int .i64 x.by_ | 1 => .int .i64 x.epoch | 2 => .slice P.pA P.pn P.pc | 3 => .bool x.has | 4 => .int .i64 x.leaf.k | 5 => .int .i64 x.leaf.id | 6 => .int .i64 x.leaf.enc | 7 => .int .i64 x.leaf.sig
  | 8 => .int .i64 x.leaf.hash | 9 => .slice P.lA P.ln P.lc | 10 => .slice P.nA P.nn P.nc | 11 => .int .i64 x.sig | _ => .int .i64 x.tag
/-- a commit's rows, as its reader laid them -/
structure CRows (w : World) (x : CM) (P : CP) : Prop where
  ps : ∃ base cs, Ow w base 109 10 P.pA P.pn P.pc cs ∧ Els PE w x.props cs
  pl : P.pn = x.props.length
  un : UO w P.lA P.ln P.lc x.leaf.un
  ul : P.ln = x.leaf.un.length
  ns : ∃ base cs, Ow w base 111 2 P.nA P.nn P.nc cs ∧ Els QE w x.nodes cs
  nl : P.nn = x.nodes.length
theorem CRows.kx {X : Nat → Prop} {w w' : World} {x : CM} {P : CP} (h : CRows w x P) (k : KX X w w') (hX : ∀ b, X b → ∃ T : TypeId, T ≠ 109 ∧ T ≠ 111 ∧ T ≠ 3 ∧ IsT w b T) : CRows w' x P := by
  have h3 : K3 w w' := K3.kx k (fun b e => by obtain ⟨T, _, _, h3, h4⟩ := hX b e; exact ⟨T, h3, h4⟩)
  obtain ⟨⟨b1, c1, o1, e1⟩, pl, un, ul, ⟨b2, c2, o2, e2⟩, nl⟩ := h
  exact ⟨⟨b1, c1, o1.kxT k (fun b e => by obtain ⟨T, h, _, _, h4⟩ := hX b e; exact ⟨T, h, h4⟩), e1.keep (PE.k3 h3)⟩, pl, un.k3 h3, ul, ⟨b2, c2, o2.kxT k (fun b e => by obtain ⟨T, _, h, _, h4⟩ := hX b e; exact ⟨T, h, h4⟩), e2.keep (QE.k3 h3)⟩, nl⟩
theorem Rw.of {α : Type} {E : World → α → List Value → Prop} {F : World → α → Addr → Prop} {m : Nat} {e : TypeId} {w : World} {base n : Nat} {A : Option Addr} {c : Nat} {cs : List Value} {l : List α} (hm : 0 < m) (hEm : ∀ s v, E w s v → v.length = m)
    (hF : ∀ s v (g o : Nat), E w s v → (∀ j, j < m → w.cell? ⟨g, o + j, Option.none⟩ = v[j]?) → F w s ⟨g, o, Option.none⟩)
    (hn : l.length = n) (h : Ow w base e m A n c cs) (k : Els E w l cs) : Rw F m w A n c l := by
  refine ⟨hn, h.lim.1, h.lim.2, ?_⟩
  by_cases hl : l = []
  · exact .inl hl
  · right
    have hp : 0 < n := by rw [← hn]; exact List.length_pos_iff.2 hl
    obtain ⟨g, rfl, _, _⟩ := h.form hp
    refine ⟨_, rfl, fun i s hs => ?_⟩
    obtain ⟨v, hv, h2⟩ := k.get (m := m) hEm hs
    have hvl := hEm s v hv
    rcases h.lies with q | ⟨ad, q, hc⟩
    · exfalso
      have := h2 0 hm
      have h0 := List.getElem?_eq_getElem (show 0 < v.length by omega)
      rw [q, h0] at this
      simp at this
    · injection q with q
      subst q
      have hadd : (Addr.mk g 0 Option.none).add (i * m) = ⟨g, i * m, Option.none⟩ := by rw [add_mk, Nat.zero_add]
      rw [hadd]
      refine hF s v g (i * m) hv (fun j hj => ?_)
      have e1 := h2 j hj
      obtain ⟨u, hu⟩ : ∃ u, v[j]? = some u := ⟨_, List.getElem?_eq_getElem (by omega)⟩
      rw [hu] at e1 ⊢
      have := hc _ _ e1
      rwa [add_mk, Nat.zero_add] at this
theorem PE.at10 {w : World} (s : PR) (v : List Value) (g o : Nat) (h : PE w s v) (hc : ∀ j, j < 10 → w.cell? ⟨g, o + j, none⟩ = v[j]?) : At10 w s ⟨g, o, none⟩ := by
  obtain ⟨B, d, rfl, hU⟩ := h
  have h0 := hc 0 (by omega)
  rw [Nat.add_zero] at h0
  exact ⟨B, s.leaf.un.length, d, h0, hc 1 (by omega), hc 2 (by omega), hc 3 (by omega), hc 4 (by omega), hc 5 (by omega), hc 6 (by omega), hc 7 (by omega), hc 8 (by omega), hc 9 (by omega), hU.sl⟩
theorem QE.at2 {w : World} (s : PN) (v : List Value) (g o : Nat) (h : QE w s v) (hc : ∀ j, j < 2 → w.cell? ⟨g, o + j, none⟩ = v[j]?) : At2 w s ⟨g, o, none⟩ := by
  obtain ⟨B, d, rfl, hU⟩ := h
  have h0 := hc 0 (by omega)
  rw [Nat.add_zero] at h0
  exact ⟨B, s.seals.length, d, h0, hc 1 (by omega), hU.sl⟩
theorem CRows.mem {w : World} {x : CM} {P : CP} (h : CRows w x P) : CMem w x P := by
  obtain ⟨⟨b1, c1, o1, e1⟩, pl, un, ul, ⟨b2, c2, o2, e2⟩, nl⟩ := h
  exact ⟨Rw.of (by omega) (PE.len w) PE.at10 pl.symm o1 e1, un.sl, Rw.of (by omega) (QE.len w) QE.at2 nl.symm o2 e2⟩
/-- what TakeCommit's box holds -/
def JC (z : Nat) (x : CM) (w : World) : Prop := ∃ P, Bx w z 13 (cmf x P) 72 ∧ CRows w x P
abbrev zcm : Array Value := #[.int .i64 0, .int .i64 0, .slice none 0 0, .bool false, .int .i64 0, .int .i64 0, .int .i64 0, .int .i64 0, .int .i64 0, .slice none 0 0, .slice none 0 0, .int .i64 0, .int .i64 0]
def cm00 : CM := ⟨0, 0, [], false, ⟨0, 0, 0, 0, 0, []⟩, [], 0, 0⟩
def cp00 : CP := ⟨none, 0, 0, none, 0, 0, none, 0, 0⟩
def cf0 : Nat → Value := cmf cm00 cp00
theorem zcm_f : ∀ j, j < 13 → zcm[j]? = some (cf0 j) := by
  intro j hj
  match j, hj with
  | 0, _ => rfl | 1, _ => rfl | 2, _ => rfl | 3, _ => rfl | 4, _ => rfl | 5, _ => rfl | 6, _ => rfl | 7, _ => rfl | 8, _ => rfl | 9, _ => rfl | 10, _ => rfl | 11, _ => rfl | 12, _ => rfl
  | j + 13, h => exact absurd h (by omega)
theorem cc_f (x : CM) (P : CP) : ∀ j, j < 13 → (cc x P).toList[j]? = some (cmf x P j) := by
  intro j hj
  match j, hj with
  | 0, _ => rfl | 1, _ => rfl | 2, _ => rfl | 3, _ => rfl | 4, _ => rfl | 5, _ => rfl | 6, _ => rfl | 7, _ => rfl | 8, _ => rfl | 9, _ => rfl | 10, _ => rfl | 11, _ => rfl | 12, _ => rfl
  | j + 13, h => exact absurd h (by omega)
theorem rIs_pos : ∀ {k : Nat} {l r : List UInt8} {ns : List Int}, rIs k l = some (ns, r) → ∀ n ∈ ns, 0 ≤ n
  | 0, l, r, ns, h => by injection h with h; injection h with h1 h2; subst h1; simp
  | k + 1, l, r, ns, h => by
    obtain ⟨x, h1, h2⟩ := bind2 h
    obtain ⟨y, h3, h4⟩ := bind2 h2
    injection h4 with h4; injection h4 with h4 h5; subst h4
    have := (rI_less (n := x.1) (r := x.2) h1).2.1
    intro n hn
    rcases List.mem_cons.1 hn with e | e
    · subst e; exact this
    · exact rIs_pos (ns := y.1) (r := y.2) h3 n e
theorem rCom1 {l : List UInt8} (h : rIs 2 l = none) : rCommit l = none := by unfold rCommit; rw [h]; rfl
theorem rCom2 {l r : List UInt8} {a : List Int} (h : rIs 2 l = some (a, r)) (k : rL rProp r = none) : rCommit l = none := by unfold rCommit; rw [h, Option.bind_some]; dsimp only; rw [k]; rfl
theorem rCom3 {l r r2 : List UInt8} {a : List Int} {ps : List PR} (h : rIs 2 l = some (a, r)) (k : rL rProp r = some (ps, r2)) (j : rIs 3 r2 = none) : rCommit l = none := by
  unfold rCommit; rw [h, Option.bind_some]; dsimp only; rw [k, Option.bind_some]; dsimp only; rw [j]; rfl
theorem rCom4 {l r r2 r3 : List UInt8} {a : List Int} {ps : List PR} {b c d : Int} (h : rIs 2 l = some (a, r)) (k : rL rProp r = some (ps, r2)) (j : rIs 3 r2 = some ([b, c, d], r3)) (h0 : d ≠ 0) (h1 : d ≠ 1) : rCommit l = none := by
  unfold rCommit; rw [h, Option.bind_some]; dsimp only; rw [k, Option.bind_some]; dsimp only; rw [j, Option.bind_some]; dsimp only
  rw [if_neg (by exact h0), if_neg (by exact h1)]
theorem rCom5 {l r r2 r3 : List UInt8} {a : List Int} {ps : List PR} {b c d : Int} (h : rIs 2 l = some (a, r)) (k : rL rProp r = some (ps, r2)) (j : rIs 3 r2 = some ([b, c, d], r3)) (h0 : d = 0) : rCommit l = some (cm0 a ps [b, c, d], r3) := by
  unfold rCommit; rw [h, Option.bind_some]; dsimp only; rw [k, Option.bind_some]; dsimp only; rw [j, Option.bind_some]; dsimp only
  rw [if_pos (by exact h0)]
theorem rCom6 {l r r2 r3 : List UInt8} {a : List Int} {ps : List PR} {b c d : Int} (h : rIs 2 l = some (a, r)) (k : rL rProp r = some (ps, r2)) (j : rIs 3 r2 = some ([b, c, d], r3)) (h0 : d = 1) : rCommit l = (rPath r3).bind fun p => some (cm1 a ps [b, c, d] p.1.1 p.1.2, p.2) := by
  unfold rCommit; rw [h, Option.bind_some]; dsimp only; rw [k, Option.bind_some]; dsimp only; rw [j, Option.bind_some]; dsimp only
  rw [if_neg (by show ¬ d = 0; omega), if_pos (by exact h0)]
theorem cf83 (args : Array Value) (w : World) : (callFunc 83 args).run Try.prog w = .ok (.enter 83 args) w := by kernel_rfl
set_option maxRecDepth 100000 in
set_option maxHeartbeats 8000000 in
theorem takec1_ok (z p : Nat) (l : List UInt8) (w : World) (B : Nat) (hR : RD (zo z B) w p l) (hp : B ≤ p) (hzB : z < B) (hb : Bx w z 13 cf0 72) (hlen : Hid (l.length ≤ 1073741824)) :
    Calls Try.prog 81 #[.pointer (some ⟨p, 0, none⟩), .pointer (some ⟨z, 0, none⟩)] w (FEnd rCommit (JC z) z p l w) := by
  have hmf := hmfT
  have HC := Lib.hid (rintsB [0, 1] 2 #[.pointer (some ⟨z, 0, none⟩), .pointer (some ⟨z, 1, none⟩)] rfl rfl (by omega) hR (.inr hp) (.inl rfl) (by omega) hb
    (fun j hj => by simp at hj; rcases hj with rfl | rfl <;> exact ⟨by omega, 0, rfl⟩) (by decide))
  have hzp : z ≠ p := by omega
  have hBw : B ≤ w.heap.size := by have := hR.bit; omega
  clear hR hb
  go_enter Try.func81, Try.ntmps81
  go_wp2_with fail
  refine HC.out.mono ?_
  rintro e w1 (⟨ns, r, f1, rfl, f3, f4, f5⟩ | ⟨f1, rfl, f3⟩)
  · have hrl := (rIs_less f1).1
    obtain ⟨n0, n1, rfl⟩ := list2 (rIs_less f1).2
    obtain ⟨f1', hf1'⟩ : ∃ f1', upd cf0 [0, 1] [n0, n1] = f1' := ⟨_, rfl⟩
    rw [hf1'] at f4
    have hc2 : w1.cell? ⟨z, 2, none⟩ = some (.slice none 0 0) := (f4.cell 2 (by omega)).trans (by rw [← hf1']; rfl)
    have HV := Lib.hid (rvec_ok rProp (fun _ _ _ e => rProp_less e) 83 #[.pointer (some ⟨z, 0, none⟩)] (fun q acc w => IE PE 109 10 ⟨z, 2, none⟩ q acc w ∧ ZB w z 2 13 f1' 72) z p (zo z B) r w1 f3 (.inr hp) (.inl rfl) hzp f4.bit (Lib.hid (by have := hlen.out; omega)) cf83
      (fun w2 q hK hq1 hq2 => ⟨⟨none, 0, [], hK.cell hc2 hzp, hK.frz (f4.fr 2) hzp f4.bit, Ow.nil _ _ _ _, rfl⟩, (f4.zb 2).kx hK hzp⟩)
      (Lib.hid (fun w2 q acc l' wr hK0 hq1 hq2 hK hR hne hN hI => rprop1_ok 13 f1' z q acc l' w2 wr hq2 (by have := f4.bit; omega) hK hR hI.2 hI.1 (Lib.hid (by have := hlen.out; omega)))))
    have HK1 := Lib.hid f5; have H1 := Lib.hid f1; have HF1 := Lib.hid hf1'
    have hs1 := f5.size
    have hzw1 := f4.bit
    clear f1 f3 f4 f5 hc2 hf1'
    go_wp2_with fail
    refine HV.out.mono ?_
    rintro e w2 (⟨ps, r2, q, g1, rfl, g3, ⟨⟨A, c, cs, c1, z1, hO, hE⟩, hZB⟩, g5, g6⟩ | ⟨g1, rfl, g3⟩)
    · have hrl2 := rL_less g1
      have hs2 := g6.size
      have hb2 := hZB.bx c1
      obtain ⟨f2, hf2⟩ : ∃ f2, (fun j => if j = 2 then Value.slice A ps.length c else f1' j) = f2 := ⟨_, rfl⟩
      rw [hf2] at hb2
      obtain ⟨h, hh⟩ : ∃ h, w2.heap.size = h := ⟨_, rfl⟩
      obtain ⟨wh, hwh⟩ : ∃ wh, w2.alloc (.cells #[.int .i64 0] 3) = wh := ⟨_, rfl⟩
      have hBh : Below w2.heap.size w2 wh := by rw [← hwh]; exact nxa (Below.refl _ _) _
      have hzh : wh.heap.size = h + 1 := by rw [← hwh]; simp [hh]
      have kh : wh.heap[h]? = some (.cells #[.int .i64 0] 3) := by rw [← hwh, ← hh]; exact heap_alloc_new _ _
      obtain ⟨wp, hwp⟩ : ∃ wp, wh.alloc (.cells #[.pointer (some ⟨z, 11, none⟩), .pointer (some ⟨z, 12, none⟩), .pointer (some ⟨h, 0, none⟩)] 106) = wp := ⟨_, rfl⟩
      have hBp : Below wh.heap.size wh wp := by rw [← hwp]; exact nxa (Below.refl _ _) _
      have hB2p : Below w2.heap.size w2 wp := nx hBh hBp
      have kp : wp.heap[h]? = some (.cells #[.int .i64 0] 3) := (hBp.block h (by omega)).trans kh
      have hbp := hb2.below hB2p
      have hRp : RD (zo z B) wp p r2 := g3.kx (Y := fun _ => False) (KX.of hB2p) (fun _ e _ => e.elim) (fun e => e)
      have hph : p < h := by have := g3.bit; omega
      have hzh2 : z < h := by have := hb2.bit; omega
      have c11 : wp.cell? ⟨z, 11, none⟩ = some (.int .i64 0) := (hbp.cell 11 (by omega)).trans (by rw [← hf2, ← HF1.out]; rfl)
      have c12 : wp.cell? ⟨z, 12, none⟩ = some (.int .i64 0) := (hbp.cell 12 (by omega)).trans (by rw [← hf2, ← HF1.out]; rfl)
      have HC2 := Lib.hid (rints_ok p (zo z B) r2 (some ⟨wh.heap.size, 0, none⟩) 3 3 [⟨z, 11, none⟩, ⟨z, 12, none⟩, ⟨h, 0, none⟩] wp hRp (.inr hp) (by rw [← hwp]; exact SlX.row _ rfl rfl (by omega) (by simp <;> omega))
        (fun t ht => by
          simp at ht
          rcases ht with rfl | rfl | rfl
          · exact ⟨.inl rfl, hzp, ⟨0, c11⟩, hbp.fr 11⟩
          · exact ⟨.inl rfl, hzp, ⟨0, c12⟩, hbp.fr 12⟩
          · exact ⟨.inr (by show B ≤ h; omega), by show h ≠ p; omega, ⟨0, cell_of kp 0⟩, frz_of kp 0⟩) (Lib.hid (by simp <;> omega)))
      rw [hzh] at HC2
      have HB2P := Lib.hid hB2p; have HBP := Lib.hid hbp; have HWH := Lib.hid hwh; have HWP := Lib.hid hwp; have HF2 := Lib.hid hf2; have HH := Lib.hid hh
      have HO := Lib.hid hO; have HE := Lib.hid hE; have G1 := Lib.hid g1; have HK2 := Lib.hid (HK1.out.trans g6)
      have HTZ := Lib.hid hb2.ty; have HTP : Hid (IsT w2 p 132) := Lib.hid (by obtain ⟨_, _, _, _, _, h⟩ := g3; exact h)
      have HX2 : Hid (∀ b, zq z p b → ∃ T : TypeId, T ≠ 109 ∧ T ≠ 111 ∧ T ≠ 3 ∧ IsT w2 b T) := Lib.hid (fun b e => by
        rcases e with e | e
        · subst e; exact ⟨72, by decide, by decide, by decide, HTZ.out⟩
        · subst e; exact ⟨132, by decide, by decide, by decide, HTP.out⟩)
      clear g1 g3 g6 hO hE hZB hb2 c1 z1 hf2 hwh hBh hzh kh hwp hBp hB2p kp hbp hRp c11 c12
      go_wp2_with fail
      rw [HWH.out, HWP.out]
      refine HC2.out.mono ?_
      rintro e w4 (⟨ms, r3, k1, rfl, k3, k4, k5⟩ | ⟨k1, rfl, k4⟩)
      · have hrl3 := (rIs_less k1).1
        obtain ⟨b, c', d, rfl⟩ := list3 (rIs_less k1).2
        have hd0 : 0 ≤ d := rIs_pos k1 d (by simp)
        have e11 := k5 0 _ b rfl rfl
        have e12 := k5 1 _ c' rfl rfl
        have eh := k5 2 _ d rfl rfl
        have hb4 : Bx w4 z 13 (fun j => if j = 11 then .int .i64 b else if j = 12 then .int .i64 c' else f2 j) 72 := by
          refine ⟨fun j hj => ?_, fun j => (k4.frz _).trans (HBP.out.fr j), k4.typ _ _ HBP.out.ty, by rw [k4.size]; exact HBP.out.bit⟩
          by_cases h11 : j = 11
          · subst h11; rw [if_pos rfl]; exact e11
          · by_cases h12 : j = 12
            · subst h12; rw [if_neg (by decide), if_pos rfl]; exact e12
            · rw [if_neg h11, if_neg h12]
              exact (k4.cell ⟨z, j, none⟩ hzp (by simp <;> omega)).trans (HBP.out.cell j hj)
        obtain ⟨f4, hf4⟩ : ∃ f4, (fun j => if j = 11 then Value.int .i64 b else if j = 12 then .int .i64 c' else f2 j) = f4 := ⟨_, rfl⟩
        rw [hf4] at hb4
        have hK24 : KX (zq z p) w2 w4 := (KX.of (X := zq z p) HB2P.out).next k4.kx (fun i e => by
          rcases e with e | ⟨t, ht, e⟩
          · exact .inl (.inr e)
          · simp at ht
            rcases ht with rfl | rfl | rfl
            · exact .inl (.inl e.symm)
            · exact .inl (.inl e.symm)
            · exact .inr (by have := HH.out; simp at e; omega))
        have HK4 := Lib.hid (HK2.out.trans hK24); have K1 := Lib.hid k1; have HB4 := Lib.hid hb4; have HF4 := Lib.hid hf4; have HR4 := Lib.hid k3
        have hO4 := HO.out.kxT hK24 (fun b e => by obtain ⟨T, h1, _, _, h4⟩ := HX2.out b e; exact ⟨T, h1, h4⟩)
        have hE4 := HE.out.keep (PE.k3 (K3.kx hK24 (fun b e => by obtain ⟨T, _, _, h3, h4⟩ := HX2.out b e; exact ⟨T, h3, h4⟩)))
        have HO4 := Lib.hid hO4; have HE4 := Lib.hid hE4
        have a3 : w4.cell? ⟨z, 3, none⟩ = some (.bool false) := (hb4.cell 3 (by omega)).trans (by rw [← hf4, ← HF2.out, ← HF1.out]; rfl)
        have x3 := hb4.fr 3
        have HTP4 : Hid (IsT w4 p 132) := Lib.hid (by obtain ⟨_, _, _, _, _, h⟩ := k3; exact h)
        clear k1 k3 k4 k5 e11 e12 hb4 hf4 hK24 hO4 hE4
        by_cases h2 : d < 2
        · have hb5 := HB4.out.set (j := 3) (by omega) (.bool (d == 1))
          have hK45 : KX (· = z) w4 (w4.setCell ⟨z, 3, none⟩ (.bool (d == 1))) := (KX.refl (· = z) w4).set ⟨z, 3, none⟩ _ (.inl rfl)
          have hR5 : RD (zo z B) (w4.setCell ⟨z, 3, none⟩ (.bool (d == 1))) p r3 := HR4.out.kx hK45 (fun i e _ => .inl e) (fun e => hzp e.symm)
          have hX45 : ∀ b, b = z → ∃ T : TypeId, T ≠ 109 ∧ T ≠ 111 ∧ T ≠ 3 ∧ IsT w4 b T := fun b e => ⟨72, by decide, by decide, by decide, by subst e; exact HB4.out.ty⟩
          have hO5 := HO4.out.kxT hK45 (fun b e => by obtain ⟨T, h1, _, _, h4⟩ := hX45 b e; exact ⟨T, h1, h4⟩)
          have hE5 := HE4.out.keep (PE.k3 (K3.kx hK45 (fun b e => by obtain ⟨T, _, _, h3, h4⟩ := hX45 b e; exact ⟨T, h3, h4⟩)))
          have hK5 : KX (zq z p) w (w4.setCell ⟨z, 3, none⟩ (.bool (d == 1))) := HK4.out.trans (hK45.mono (fun i e => .inl e))
          have hTP5 := HTP4.out.set (q := ⟨z, 3, none⟩) (.bool (d == 1))
          by_cases h1 : d = 1
          · subst h1
            have hb : ((1 : Int) == 1) = true := rfl
            rw [hb] at hb5 hK45 hR5 hO5 hE5 hK5 hTP5
            obtain ⟨w5, hw5⟩ : ∃ w5, w4.setCell ⟨z, 3, none⟩ (.bool true) = w5 := ⟨_, rfl⟩
            rw [hw5] at hb5 hK45 hR5 hO5 hE5 hK5 hTP5
            have HB5 := Lib.hid hb5; have HR5 := Lib.hid hR5; have HO5 := Lib.hid hO5; have HE5 := Lib.hid hE5; have HK5 := Lib.hid hK5; have HTP5 := Lib.hid hTP5; have HW5 := Lib.hid hw5
            have HP := Lib.hid (rpath_ok p (zo z B) r3 w5 hR5 (.inr hp) (Lib.hid (by have := hlen.out; omega)))
            clear hb5 hR5 hO5 hE5 hK5 hTP5 hw5 hK45 hX45 hb
            go_wp2_with (go_at_call 85; refine (must_ok _).mono ?_; rintro e w9 ⟨rfl, rfl⟩)
            rw [HW5.out]
            refine HP.out.mono ?_
            rintro e w6 (⟨⟨s, xs⟩, r4, v, m1, rfl, ⟨Bu, du, bs, An, cn, csn, rfl, hU, hOn, hEn⟩, m4, m5⟩ | ⟨m1, rfl, m3⟩)
            · dsimp only at hU hOn hEn
              have hb6 := HB5.out.kx m5 hzp
              have y4 := hb6.cell 4 (by omega); have y5 := hb6.cell 5 (by omega); have y6 := hb6.cell 6 (by omega); have y7 := hb6.cell 7 (by omega); have y8 := hb6.cell 8 (by omega); have y9 := hb6.cell 9 (by omega); have y10 := hb6.cell 10 (by omega)
              have x4 := hb6.fr 4; have x5 := hb6.fr 5; have x6 := hb6.fr 6; have x7 := hb6.fr 7; have x8 := hb6.fr 8; have x9 := hb6.fr 9; have x10 := hb6.fr 10
              have hb7 := hb6.setsAt [.int .i64 s.k, .int .i64 s.id, .int .i64 s.enc, .int .i64 s.sig, .int .i64 s.hash, .slice Bu s.un.length du, .slice An xs.length cn] 4 (by simp)
              have hK67 := KX.lays' w6 z 4 [.int .i64 s.k, .int .i64 s.id, .int .i64 s.enc, .int .i64 s.sig, .int .i64 s.hash, .slice Bu s.un.length du, .slice An xs.length cn]
              have hX5 : ∀ b, b = p → ∃ T : TypeId, T ≠ 109 ∧ T ≠ 111 ∧ T ≠ 3 ∧ IsT w5 b T := fun b e => ⟨132, by decide, by decide, by decide, by subst e; exact HTP5.out⟩
              have hX6 : ∀ b, b = z → ∃ T : TypeId, T ≠ 109 ∧ T ≠ 111 ∧ T ≠ 3 ∧ IsT w6 b T := fun b e => ⟨72, by decide, by decide, by decide, by subst e; exact hb6.ty⟩
              have k56 : K3 w5 w6 := K3.kx m5 (fun b e => by obtain ⟨T, _, _, h3, h4⟩ := hX5 b e; exact ⟨T, h3, h4⟩)
              have k67 := K3.kx hK67 (fun b e => by obtain ⟨T, _, _, h3, h4⟩ := hX6 b e; exact ⟨T, h3, h4⟩)
              have hO7 := (HO5.out.kxT m5 (fun b e => by obtain ⟨T, h1, _, _, h4⟩ := hX5 b e; exact ⟨T, h1, h4⟩)).kxT hK67 (fun b e => by obtain ⟨T, h1, _, _, h4⟩ := hX6 b e; exact ⟨T, h1, h4⟩)
              have hE7 := (HE5.out.keep (PE.k3 k56)).keep (PE.k3 k67)
              have hU7 := hU.k3 k67
              have hOn7 := hOn.kxT hK67 (fun b e => by obtain ⟨T, _, h1, _, h4⟩ := hX6 b e; exact ⟨T, h1, h4⟩)
              have hEn7 := hEn.keep (QE.k3 k67)
              have hR7 : RD (zo z B) (w6.setCells z 4 [.int .i64 s.k, .int .i64 s.id, .int .i64 s.enc, .int .i64 s.sig, .int .i64 s.hash, .slice Bu s.un.length du, .slice An xs.length cn]) p r4 := m4.kx hK67 (fun i e _ => .inl e) (fun e => hzp e.symm)
              have hK7 : KX (zq z p) w (w6.setCells z 4 [.int .i64 s.k, .int .i64 s.id, .int .i64 s.enc, .int .i64 s.sig, .int .i64 s.hash, .slice Bu s.un.length du, .slice An xs.length cn]) := (HK5.out.trans (m5.mono (fun i e => .inr e))).trans (hK67.mono (fun i e => .inl e))
              have HB7 := Lib.hid hb7; have HO7 := Lib.hid hO7; have HE7 := Lib.hid hE7; have HU7 := Lib.hid hU7; have HON7 := Lib.hid hOn7; have HEN7 := Lib.hid hEn7; have HR7 := Lib.hid hR7; have HK7 := Lib.hid hK7; have M1 := Lib.hid m1
              clear hU hOn hEn hb6 hb7 hK67 hX5 hX6 k56 k67 hO7 hE7 hU7 hOn7 hEn7 hR7 hK7 m1 m4 m5
              go_wp2_with fail
              go_end0
              refine (show FEnd rCommit (JC z) z p l w (.returned (.tuple #[])) (w6.setCells z 4 [.int .i64 s.k, .int .i64 s.id, .int .i64 s.enc, .int .i64 s.sig, .int .i64 s.hash, .slice Bu s.un.length du, .slice An xs.length cn]) from ?_)
              generalize w6.setCells z 4 [.int .i64 s.k, .int .i64 s.id, .int .i64 s.enc, .int .i64 s.sig, .int .i64 s.hash, .slice Bu s.un.length du, .slice An xs.length cn] = w7 at *
              refine .inl ⟨cm1 [n0, n1] ps [b, c', 1] s xs, r4, zo z B, by rw [rCom6 H1.out G1.out K1.out rfl, M1.out]; rfl, rfl, HR7.out, ⟨⟨A, ps.length, c, Bu, s.un.length, du, An, xs.length, cn⟩, ?_, ?_⟩, HK7.out⟩
              · refine ⟨fun j hj => (HB7.out.cell j hj).trans ?_, HB7.out.fr, HB7.out.ty, HB7.out.bit⟩
                rw [← HF4.out, ← HF2.out, ← HF1.out]
                match j, hj with
                | 0, _ => rfl | 1, _ => rfl | 2, _ => rfl | 3, _ => rfl | 4, _ => rfl | 5, _ => rfl | 6, _ => rfl | 7, _ => rfl | 8, _ => rfl | 9, _ => rfl | 10, _ => rfl | 11, _ => rfl | 12, _ => rfl
                | j + 13, h => exact absurd h (by omega)
              · exact ⟨⟨_, cs, HO7.out, HE7.out⟩, rfl, HU7.out, rfl, ⟨_, csn, HON7.out, HEN7.out⟩, rfl⟩
            · simp [bodyPost]
              exact .inr ⟨by rw [rCom6 H1.out G1.out K1.out rfl, m1]; rfl, rfl, HK5.out.trans (m3.mono (fun i e => .inr e))⟩
          · obtain rfl : d = 0 := by omega
            have hb : ((0 : Int) == 1) = false := rfl
            rw [hb] at hb5 hK45 hR5 hO5 hE5 hK5 hTP5
            have HB5 := Lib.hid hb5; have HR5 := Lib.hid hR5; have HO5 := Lib.hid hO5; have HE5 := Lib.hid hE5; have HK5 := Lib.hid hK5
            clear hb5 hR5 hO5 hE5 hK5 hTP5 hK45 hX45 h1 hb
            go_wp2_with (go_at_call 85; refine (must_ok _).mono ?_; rintro e w9 ⟨rfl, rfl⟩)
            go_end0
            refine .inl ⟨_, r3, zo z B, rCom5 H1.out G1.out K1.out rfl, rfl, HR5.out, ⟨⟨A, ps.length, c, none, 0, 0, none, 0, 0⟩, ?_, ?_⟩, HK5.out⟩
            · refine ⟨fun j hj => (HB5.out.cell j hj).trans ?_, HB5.out.fr, HB5.out.ty, HB5.out.bit⟩
              rw [← HF4.out, ← HF2.out, ← HF1.out]
              match j, hj with
              | 0, _ => rfl | 1, _ => rfl | 2, _ => rfl | 3, _ => rfl | 4, _ => rfl | 5, _ => rfl | 6, _ => rfl | 7, _ => rfl | 8, _ => rfl | 9, _ => rfl | 10, _ => rfl | 11, _ => rfl | 12, _ => rfl
              | j + 13, h => exact absurd h (by omega)
            · exact ⟨⟨_, cs, HO5.out, HE5.out⟩, rfl, UO.none _, rfl, ⟨0, [], Ow.nil _ _ _ _, rfl⟩, rfl⟩
        · have h20 : d ≠ 0 := by omega
          have h21 : d ≠ 1 := by omega
          have t2 : decide (d < 2) = false := by simpa using h2
          clear a3 x3
          go_wp2_with (go_at_call 85; refine (must_no _).mono ?_; rintro e w9 ⟨rfl, rfl⟩)
          simp [bodyPost]
          exact .inr ⟨rCom4 H1.out G1.out K1.out h20 h21, rfl, HK4.out⟩
      · simp [bodyPost]
        exact .inr ⟨rCom3 H1.out G1.out k1, rfl, HK2.out.trans ((KX.of (X := zq z p) HB2P.out).next k4.kx (fun i e => by
          rcases e with e | ⟨t, ht, e⟩
          · exact .inl (.inr e)
          · simp at ht
            rcases ht with rfl | rfl | rfl
            · exact .inl (.inl e.symm)
            · exact .inl (.inl e.symm)
            · exact .inr (by have := HH.out; simp at e; omega)))⟩
    · simp [bodyPost]
      exact .inr ⟨rCom2 H1.out g1, rfl, HK1.out.trans g3⟩
  · simp [bodyPost]
    exact .inr ⟨rCom1 f1, rfl, f3⟩
/-- how TakeCommit ends -/
def CmEnd (o : Option CM) (w : World) (e : Ending) (w' : World) : Prop :=
  ((∃ x P, o = some x ∧ e = .returned (.tuple #[cv x P, .int .i64 0]) ∧ CMem w' x P) ∨ (o = none ∧ e = .returned (.tuple #[cv cm00 cp00, .int .i64 11]))) ∧ Below w.heap.size w w'
theorem cf81 (args : Array Value) (w : World) : (callFunc 81 args).run Try.prog w = .ok (.enter 81 args) w := by kernel_rfl
set_option maxRecDepth 100000 in
set_option maxHeartbeats 8000000 in
/-- codec.TakeCommit -/
theorem takecommit_ok (A : Option Addr) (n c : Nat) (l : List UInt8) (w : World) (h : Sl w A n c (bv l)) (hlen : Hid (l.length ≤ 1073741824)) :
    Calls Try.prog 49 #[.slice A n c] w (CmEnd (full rCommit l) w) := by
  have hmf := hmfT
  obtain ⟨g, hg⟩ : ∃ g, w.heap.size = g := ⟨_, rfl⟩
  obtain ⟨wz, hwz⟩ : ∃ wz, (w.alloc (.cells zcm 72)).alloc (.cells zcm 72) = wz := ⟨_, rfl⟩
  have hBz : Below w.heap.size w wz := by rw [← hwz]; exact nxa (nxa (Below.refl _ _) _) _
  have hzz : wz.heap.size = g + 1 + 1 := by rw [← hwz]; simp [hg]
  have k0 : wz.heap[g]? = some (.cells zcm 72) := by rw [← hwz, Below.heap_alloc _ _ _ (by simp; omega), ← hg]; exact heap_alloc_new _ _
  have k1 : wz.heap[g + 1]? = some (.cells zcm 72) := by
    have := heap_alloc_new (w.alloc (.cells zcm 72)) (.cells zcm 72)
    rw [← hwz]
    rwa [show (w.alloc (.cells zcm 72)).heap.size = g + 1 by simp [hg]] at this
  have hsl : SlX (· = g + 1) wz A n c (bv l) := by
    refine ⟨h.below hBz, ?_⟩
    rcases h.lies with e | ⟨ad, rfl, _⟩
    · exact .inl e
    · by_cases hx : bv l = []
      · exact .inl hx
      · have := h.lies.blk rfl hx
        exact .inr ⟨ad, rfl, by omega⟩
  have hb0 : Bx wz (g + 1) 13 cf0 72 := Bx.of k1 zcm_f
  have HG : Hid (Bx wz g 13 cf0 72) := Lib.hid (Bx.of k0 zcm_f)
  have HR := Lib.hid (read_ok rCommit (JC (g + 1)) (g + 1) 81 #[.pointer (some ⟨g + 1, 0, none⟩)] l A n c wz hsl (by omega) cf81
    (fun a w b v hb hbz hj => by
      obtain ⟨P, h1, h2⟩ := hj
      have hk : KX (· = b) w (w.setCell ⟨b, 0, none⟩ v) := (KX.refl (· = b) w).set ⟨b, 0, none⟩ v (.inl rfl)
      exact ⟨P, h1.kx hk (fun e => hbz e.symm), h2.kx hk (fun i e => ⟨24, by decide, by decide, by decide, by subst e; exact hb⟩)⟩)
    (Lib.hid (fun wf p hK hp hRD => takec1_ok (g + 1) p l wf wz.heap.size hRD hp (by omega) (hb0.kx hK (fun e => e)) hlen)))
  have HB := Lib.hid hBz; have HW := Lib.hid hwz; have HGG := Lib.hid hg
  clear hBz hwz k0 k1 hzz hsl h hb0
  go_enter Try.func49, Try.ntmps49
  go_wp2_with fail
  rw [HW.out]
  refine HR.out.mono ?_
  rintro e w2 ⟨⟨x, f1, rfl, ⟨P, hb, hT⟩⟩ | ⟨f1, rfl⟩, hK⟩
  · have hg2 := HG.out.kx hK (by omega)
    have HFIN : Hid (Below w.heap.size w (w2.setCells g 0 (cc x P).toList)) := Lib.hid (((KX.of (X := fun _ => False) HB.out).next (hK.mono (fun i e => e)) (fun i e => .inr (by have := HGG.out; omega)) |>.below (Nat.le_refl _) (fun _ e => e.elim)).trans (((KX.lays w2 g _).below (B := w.heap.size) (by have := hg2.bit; have := HGG.out; omega) (fun b e => by have := HGG.out; omega))))
    have hl := hg2.sets (cc x P).toList rfl (cc_f x P)
    have hT9 := hT.kx (KX.lays w2 g (cc x P).toList) (fun b e => ⟨72, by decide, by decide, by decide, by subst e; exact hg2.ty⟩)
    have c0 := hb.cell 0 (by omega); have c1 := hb.cell 1 (by omega); have c2 := hb.cell 2 (by omega); have c3 := hb.cell 3 (by omega); have c4 := hb.cell 4 (by omega); have c5 := hb.cell 5 (by omega); have c6 := hb.cell 6 (by omega); have c7 := hb.cell 7 (by omega); have c8 := hb.cell 8 (by omega); have c9 := hb.cell 9 (by omega); have c10 := hb.cell 10 (by omega); have c11 := hb.cell 11 (by omega); have c12 := hb.cell 12 (by omega)
    have u0 := hg2.cell 0 (by omega); have u1 := hg2.cell 1 (by omega); have u2 := hg2.cell 2 (by omega); have u3 := hg2.cell 3 (by omega); have u4 := hg2.cell 4 (by omega); have u5 := hg2.cell 5 (by omega); have u6 := hg2.cell 6 (by omega); have u7 := hg2.cell 7 (by omega); have u8 := hg2.cell 8 (by omega); have u9 := hg2.cell 9 (by omega); have u10 := hg2.cell 10 (by omega); have u11 := hg2.cell 11 (by omega); have u12 := hg2.cell 12 (by omega)
    have x0 := hg2.fr 0; have x1 := hg2.fr 1; have x2 := hg2.fr 2; have x3 := hg2.fr 3; have x4 := hg2.fr 4; have x5 := hg2.fr 5; have x6 := hg2.fr 6; have x7 := hg2.fr 7; have x8 := hg2.fr 8; have x9 := hg2.fr 9; have x10 := hg2.fr 10; have x11 := hg2.fr 11; have x12 := hg2.fr 12
    simp only [cmf] at c0 c1 c2 c3 c4 c5 c6 c7 c8 c9 c10 c11 c12
    have H1 := Lib.hid f1; have HL := Lib.hid hl; have HT9 := Lib.hid hT9
    clear hb hT hK hg2 f1 hl hT9
    go_wp2_with fail
    refine (show bodyPost Try.prog Try.f49 (CmEnd (full rCommit l) w) Exit.ret _ (w2.setCells g 0 (cc x P).toList) from ?_)
    have l0 := HL.out.cell 0 (by omega); have l1 := HL.out.cell 1 (by omega); have l2 := HL.out.cell 2 (by omega); have l3 := HL.out.cell 3 (by omega); have l4 := HL.out.cell 4 (by omega); have l5 := HL.out.cell 5 (by omega); have l6 := HL.out.cell 6 (by omega); have l7 := HL.out.cell 7 (by omega); have l8 := HL.out.cell 8 (by omega); have l9 := HL.out.cell 9 (by omega); have l10 := HL.out.cell 10 (by omega); have l11 := HL.out.cell 11 (by omega); have l12 := HL.out.cell 12 (by omega)
    simp only [cmf] at l0 l1 l2 l3 l4 l5 l6 l7 l8 l9 l10 l11 l12
    generalize w2.setCells g 0 (cc x P).toList = w9 at *
    simp [bodyPost, results, Try.results49, go_sem, l0, l1, l2, l3, l4, l5, l6, l7, l8, l9, l10, l11, l12]
    exact ⟨.inl ⟨x, P, H1.out, rfl, HT9.out.mem⟩, HFIN.out⟩
  · have hg2 := HG.out.kx hK (by omega)
    have HFIN : Hid (Below w.heap.size w (w2.setCells g 0 zcm.toList)) := Lib.hid (((KX.of (X := fun _ => False) HB.out).next (hK.mono (fun i e => e)) (fun i e => .inr (by have := HGG.out; omega)) |>.below (Nat.le_refl _) (fun _ e => e.elim)).trans (((KX.lays w2 g _).below (B := w.heap.size) (by have := hg2.bit; have := HGG.out; omega) (fun b e => by have := HGG.out; omega))))
    have hl := hg2.sets (g := cf0) zcm.toList rfl (fun j hj => by have := zcm_f j hj; simpa using this)
    have u0 := hg2.cell 0 (by omega); have u1 := hg2.cell 1 (by omega); have u2 := hg2.cell 2 (by omega); have u3 := hg2.cell 3 (by omega); have u4 := hg2.cell 4 (by omega); have u5 := hg2.cell 5 (by omega); have u6 := hg2.cell 6 (by omega); have u7 := hg2.cell 7 (by omega); have u8 := hg2.cell 8 (by omega); have u9 := hg2.cell 9 (by omega); have u10 := hg2.cell 10 (by omega); have u11 := hg2.cell 11 (by omega); have u12 := hg2.cell 12 (by omega)
    have x0 := hg2.fr 0; have x1 := hg2.fr 1; have x2 := hg2.fr 2; have x3 := hg2.fr 3; have x4 := hg2.fr 4; have x5 := hg2.fr 5; have x6 := hg2.fr 6; have x7 := hg2.fr 7; have x8 := hg2.fr 8; have x9 := hg2.fr 9; have x10 := hg2.fr 10; have x11 := hg2.fr 11; have x12 := hg2.fr 12
    have H1 := Lib.hid f1; have HL := Lib.hid hl
    clear hK hg2 f1 hl
    go_wp2_with fail
    refine (show bodyPost Try.prog Try.f49 (CmEnd (full rCommit l) w) Exit.ret _ (w2.setCells g 0 zcm.toList) from ?_)
    have l0 := HL.out.cell 0 (by omega); have l1 := HL.out.cell 1 (by omega); have l2 := HL.out.cell 2 (by omega); have l3 := HL.out.cell 3 (by omega); have l4 := HL.out.cell 4 (by omega); have l5 := HL.out.cell 5 (by omega); have l6 := HL.out.cell 6 (by omega); have l7 := HL.out.cell 7 (by omega); have l8 := HL.out.cell 8 (by omega); have l9 := HL.out.cell 9 (by omega); have l10 := HL.out.cell 10 (by omega); have l11 := HL.out.cell 11 (by omega); have l12 := HL.out.cell 12 (by omega)
    simp only [cf0, cmf, cm00, cp00] at l0 l1 l2 l3 l4 l5 l6 l7 l8 l9 l10 l11 l12
    generalize w2.setCells g 0 zcm.toList = w9 at *
    simp [bodyPost, results, Try.results49, go_sem, l0, l1, l2, l3, l4, l5, l6, l7, l8, l9, l10, l11, l12]
    exact ⟨.inr ⟨H1.out, rfl⟩, HFIN.out⟩
end Go.Proofs.Ytjebmmmjjiomfaa
