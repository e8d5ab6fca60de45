/- The walks of a reader's path nodes and proposals (one round each). -/
import Derived.Test.YtjebmmmjjiomfaaCRWel
import Derived.Test.YtjebmmmjjiomfaaCMem
namespace Go.Proofs.Ytjebmmmjjiomfaa
open Go.RowKit

theorem E68 : Elem Try.prog 68 111 (.agg #[.int .i64 0, .slice none 0 0]) 2 32 := ⟨Try.underlying68, by kernel_rfl, rfl, by omega⟩
theorem E64 : Elem Try.prog 64 109 (.agg #[.int .i64 0, .int .i64 0, .int .i64 0, .int .i64 0, .int .i64 0, .int .i64 0, .int .i64 0, .slice none 0 0, .int .i64 0, .int .i64 0]) 10 96 := ⟨Try.underlying64, by kernel_rfl, rfl, by omega⟩
def ql (s : PN) (B : Option Addr) (d : Nat) : List Value := [.int .i64 s.enc, .slice B s.seals.length d]
def QE (w : World) (s : PN) (v : List Value) : Prop := ∃ B d, v = ql s B d ∧ UO w B s.seals.length d s.seals
theorem QE.k3 {w w' : World} (k : K3 w w') (s : PN) (v : List Value) (h : QE w s v) : QE w' s v := by
  obtain ⟨B, d, h1, h2⟩ := h; exact ⟨B, d, h1, h2.k3 k⟩
theorem QE.len (w : World) (s : PN) (v : List Value) (h : QE w s v) : v.length = 2 := by obtain ⟨B, d, rfl, _⟩ := h; rfl
theorem ql_one (s : PN) (B : Option Addr) (d : Nat) : ∀ u ∈ ql s B d, u.oneCell' = true := by
  intro u hu
  simp [ql] at hu
  rcases hu with rfl | rfl <;> rfl
def pl (s : PR) (B : Option Addr) (d : Nat) : List Value := [.int .i64 s.k, .int .i64 s.from_, .int .i64 s.leaf.k, .int .i64 s.leaf.id, .int .i64 s.leaf.enc, .int .i64 s.leaf.sig, .int .i64 s.leaf.hash, .slice B s.leaf.un.length d, .int .i64 s.at_, .int .i64 s.term]
def PE (w : World) (s : PR) (v : List Value) : Prop := ∃ B d, v = pl s B d ∧ UO w B s.leaf.un.length d s.leaf.un
theorem PE.k3 {w w' : World} (k : K3 w w') (s : PR) (v : List Value) (h : PE w s v) : PE w' s v := by
  obtain ⟨B, d, h1, h2⟩ := h; exact ⟨B, d, h1, h2.k3 k⟩
theorem PE.len (w : World) (s : PR) (v : List Value) (h : PE w s v) : v.length = 10 := by obtain ⟨B, d, rfl, _⟩ := h; rfl
theorem pl_one (s : PR) (B : Option Addr) (d : Nat) : ∀ u ∈ pl s B d, u.oneCell' = true := by
  intro u hu
  simp [pl] at hu
  rcases hu with rfl | rfl | rfl | rfl | rfl | rfl | rfl | rfl | rfl | rfl <;> rfl
def qf0 : Nat → Value
  | 0 => .int .i64 0 | _ => .slice none 0 0
def pf0 : Nat → Value
  | 7 => .slice none 0 0 | _ => .int .i64 0
theorem rPN_1 {l : List UInt8} (h : rIs 1 l = none) : rPN l = none := by unfold rPN; rw [rIs_one1_none h]; rfl
theorem rPN_2 {l r : List UInt8} {a : Int} (h : rIs 1 l = some ([a], r)) (k : rL rI r = none) : rPN l = none := by
  obtain ⟨b, hb, h2⟩ := rIs_one1 h
  unfold rPN; rw [h2, Option.bind_some]; dsimp only; rw [k]; rfl
theorem rPN_3 {l r r2 : List UInt8} {a : Int} {un : List Int} (h : rIs 1 l = some ([a], r)) (k : rL rI r = some (un, r2)) : rPN l = some (⟨a, un⟩, r2) := by
  obtain ⟨b, hb, h2⟩ := rIs_one1 h
  injection hb with hb
  subst hb
  unfold rPN; rw [h2, Option.bind_some]; dsimp only; rw [k]; rfl
theorem list1 {ns : List Int} (h : ns.length = 1) : ∃ a, ns = [a] := by
  match ns, h with
  | [a], _ => exact ⟨a, rfl⟩
/-- what an own row and what lies in it keep through a change of blocks of other kinds -/
theorem Ow.kxT {X : Nat → Prop} {w w' : World} {base : Nat} {e : TypeId} {size : Nat} {A : Option Addr} {n c : Nat} {xs : List Value} (h : Ow w base e size A n c xs) (k : KX X w w') (hX : ∀ b, X b → ∃ T : TypeId, T ≠ e ∧ IsT w b T) : Ow w' base e size A n c xs :=
  h.kx k (fun g hg hx => by obtain ⟨T, h1, h2⟩ := hX g hx; exact (h.isT hg).ne h2 (fun q => h1 q.symm) rfl)
/-- a box, but for one cell that a loop lays -/
structure ZB (w : World) (z off n : Nat) (f : Nat → Value) (T : TypeId) : Prop where
  cell : ∀ j, j < n → j ≠ off → w.cell? ⟨z, j, none⟩ = some (f j)
  fr : ∀ j, w.frozen? ⟨z, j, none⟩ = false
  ty : IsT w z T
  bit : z < w.heap.size
theorem ZB.kx {X : Nat → Prop} {w w' : World} {z off n : Nat} {f : Nat → Value} {T : TypeId} (h : ZB w z off n f T) (k : KX X w w') (hz : ¬ X z) : ZB w' z off n f T :=
  ⟨fun j hj ho => k.cell (h.cell j hj ho) hz, fun j => k.frz (h.fr j) hz h.bit, h.ty.kx k hz, by have := h.bit; have := k.size; omega⟩
theorem ZB.set {w : World} {z off n : Nat} {f : Nat → Value} {T : TypeId} (h : ZB w z off n f T) (v : Value) : ZB (w.setCell ⟨z, off, none⟩ v) z off n f T :=
  ⟨fun j hj ho => (World.cell?_setCell_other _ _ _ _ (by intro e; injection e with _ e; exact ho e.symm)).trans (h.cell j hj ho), fun j => by rw [World.frozen?_setCell]; exact h.fr j, h.ty.set _ _, by have := h.bit; simp [World.setCell]; exact this⟩
theorem Bx.zb {w : World} {z n : Nat} {f : Nat → Value} {T : TypeId} (h : Bx w z n f T) (off : Nat) : ZB w z off n f T := ⟨fun j hj _ => h.cell j hj, h.fr, h.ty, h.bit⟩
theorem ZB.bx {w : World} {z off n : Nat} {f : Nat → Value} {T : TypeId} (h : ZB w z off n f T) {v : Value} (hv : w.cell? ⟨z, off, none⟩ = some v) : Bx w z n (fun j => if j = off then v else f j) T := by
  refine ⟨fun j hj => ?_, h.fr, h.ty, h.bit⟩
  by_cases e : j = off
  · subst e; rw [if_pos rfl]; exact hv
  · rw [if_neg e]; exact h.cell j hj e
theorem IE.closeZ {α : Type} {f : List UInt8 → Option (α × List UInt8)} {E : World → α → List Value → Prop} {t T : TypeId} {m z off q nz : Nat} {fz : Nat → Value} {w1 w2 w4 : World} {acc : List α} {l r : List UInt8} {s : α} {o : Obj} {cs v : List Value} {A A4 : Option Addr} {c c4 : Nat} {u : Value}
    (hq : q + 1 = w1.heap.size) (hzq : z < q) (hK : KX (zq z q) w1 w2) (hR : RD (zo z q) w2 q r) (hE : Els E w2 acc cs) (hs : E w2 s v) (hEk : ∀ a b, K3 a b → ∀ s v, E a s v → E b s v) (hO : Ow w2 (q + 1) t m A acc.length c cs) (ht : t ≠ 3)
    (hO4 : Ow w4 (q + 1) t m A4 (acc.length + 1) c4 (cs ++ v)) (hG4 : (w2.alloc o).grownBy w4 (Value.slice A acc.length c).ownBlock) (hB4 : Below (q + 1) (w2.alloc o) w4) (hc4 : w4.cell? ⟨z, off, none⟩ = some u) (hz4 : w4.frozen? ⟨z, off, none⟩ = false)
    (hT : ZB w2 z off nz fz T) (hT3 : T ≠ 3) (f1 : f l = some (s, r)) :
    Round f (fun q acc w => IE E t m ⟨z, off, none⟩ q acc w ∧ ZB w z off nz fz T) z q w1 acc l (.returned (.tuple #[])) (w4.setCell ⟨z, off, none⟩ (.slice A4 (acc.length + 1) c4)) := by
  have hBa : Below w2.heap.size w2 (w2.alloc o) := nxa (Below.refl _ _) _
  have hZ4 : ZB w4 z off nz fz T := (hT.kx (X := fun _ => False) (KX.of hBa) (fun e => e)).kx (KX.ofB hB4) (by omega)
  rcases IE.close hq hzq hK hR hE hs hEk hO ht hO4 hG4 hB4 hc4 hz4 hT.ty hT3 f1 with ⟨a, r', g1, g2, g3, ⟨g4, _⟩, g5⟩ | ⟨g1, _⟩
  · exact .inl ⟨a, r', g1, g2, g3, ⟨g4, hZ4.set _⟩, g5⟩
  · rw [f1] at g1; cases g1
set_option maxRecDepth 100000 in
set_option maxHeartbeats 4000000 in
/-- path$1 of the reader -/
theorem rpath1_ok (nz : Nat) (fz : Nat → Value) (z q : Nat) (acc : List PN) (l : List UInt8) (w1 wr : World) (hq : q + 1 = w1.heap.size) (hzq : z < q) (hK : KX (zq z q) w1 wr) (hR : RD (zo z q) wr q l) (hz : ZB wr z 6 nz fz 70) (hI : IE QE 111 2 ⟨z, 6, none⟩ q acc wr) (hN : Hid (acc.length + l.length ≤ 1073741824)) :
    Calls Try.prog 113 #[.pointer (some ⟨q, 0, none⟩), .pointer (some ⟨z, 0, none⟩)] wr (Round rPN (fun q acc w => IE QE 111 2 ⟨z, 6, none⟩ q acc w ∧ ZB w z 6 nz fz 70) z q w1 acc l) := by
  have hbit := hR.bit
  obtain ⟨A, c, cs, c1, z1, hO, hE⟩ := hI
  have hTq : IsT wr q 132 := by obtain ⟨_, _, _, _, _, h⟩ := hR; exact h
  have hzw : z < wr.heap.size := World.block_lt_of_cell? _ _ c1
  obtain ⟨g, hg⟩ : ∃ g, wr.heap.size = g := ⟨_, rfl⟩
  obtain ⟨wa, hwa⟩ : ∃ wa, wr.alloc (.cells #[.int .i64 0, .slice none 0 0] 111) = wa := ⟨_, rfl⟩
  have hza : wa.heap.size = g + 1 := by rw [← hwa]; simp [hg]
  have hBa : Below wr.heap.size wr wa := by rw [← hwa]; exact nxa (Below.refl _ _) _
  have hbx : Bx wa g 2 qf0 111 := Bx.of (by rw [← hwa, ← hg]; exact heap_alloc_new _ _) (fun j hj => by
    match j, hj with
    | 0, _ => rfl | 1, _ => rfl
    | j + 2, h => exact absurd h (by omega))
  have hRa : RD (zo z q) wa q l := hR.kx (Y := fun _ => False) (KX.of hBa) (fun _ e _ => e.elim) (fun e => e)
  have HC := Lib.hid (rintsB [0] 1 #[.pointer (some ⟨g, 0, none⟩)] rfl rfl (by omega) hRa (.inr (Nat.le_refl _)) (.inr (by omega)) (by omega) hbx (fun j hj => by simp at hj; subst hj; exact ⟨by omega, 0, rfl⟩) (by decide))
  rw [hza] at HC
  have HKa := Lib.hid (hK.past (hBa.mono (by have := hK.size; omega)))
  have c1a := (KX.of (X := fun _ => False) hBa).cell c1 (fun e => e)
  have z1a := (KX.of (X := fun _ => False) hBa).frz z1 (fun e => e) hzw
  have HGO : Hid (∀ i, A = some ⟨i, 0, none⟩ → q + 1 ≤ i ∧ i < g) := Lib.hid (fun i e => by have := hO.inb e; omega)
  have HO := Lib.hid (hO.below hBa); have HE := Lib.hid (hE.keep (QE.k3 (K3.of hBa))); have HWA := Lib.hid hwa
  have HTQ := Lib.hid (hTq.kx (X := fun _ => False) (KX.of hBa) (fun e => e)); have HZT := Lib.hid (hz.kx (X := fun _ => False) (KX.of hBa) (fun e => e)); have HTG := Lib.hid hbx.ty
  have HRL := Lib.hid hza
  have hga : g < wa.heap.size := by omega
  clear hwa hBa hbx hRa hK hR hz hO hE hTq c1 z1 hza
  go_enter Try.func113, Try.ntmps113
  go_wp2_with fail
  rw [HWA.out]
  refine HC.out.mono ?_
  rintro e w2 (⟨ns, r, f1, rfl, f3, f4, f5⟩ | ⟨f1, rfl, f3⟩)
  · obtain ⟨a, rfl⟩ := list1 (rIs_less f1).2
    have hrl := (rIs_less f1).1
    have HT := Lib.hid (rlist_ok q (zo z q) r w2 f3 (.inr (Nat.le_refl _)) (Lib.hid (by have := hN.out; omega)))
    have HB1 := Lib.hid f4; have HK2 := Lib.hid f5; have H1 := Lib.hid f1
    clear f1 f3 f4 f5
    go_wp2_with fail
    refine HT.out.mono ?_
    rintro e w3 (⟨un, r2, v, h1, rfl, ⟨B, d, rfl, hU⟩, h4, h5⟩ | ⟨h1, rfl, h3⟩)
    · have hb3 := HB1.out.kx h5 (by omega)
      have y1 := hb3.cell 1 (by omega)
      have x1 := hb3.fr 1
      have hb4 := hb3.set (j := 1) (by omega) (.slice B un.length d)
      obtain ⟨w4, hw4⟩ : ∃ w4, w3.setCell ⟨g, 1, none⟩ (.slice B un.length d) = w4 := ⟨_, rfl⟩
      rw [hw4] at hb4
      have hK34 : KX (· = g) w3 w4 := by rw [← hw4]; exact (KX.refl (· = g) w3).set ⟨g, 1, none⟩ _ (.inl rfl)
      have hKa4 : KX (zq g q) wa w4 := (HK2.out.trans (h5.mono (fun i e => .inr e))).trans (hK34.mono (fun i e => .inl e))
      have hU4 : UO w4 B un.length d un := hU.k3 (K3.kx hK34 (fun b e => ⟨111, by decide, by subst e; exact hb3.ty⟩))
      have hX4 : ∀ b, zq g q b → ∃ T : TypeId, T ≠ 3 ∧ IsT wa b T := fun b e => by
        rcases e with e | e
        · subst e; exact ⟨111, by decide, HTG.out⟩
        · subst e; exact ⟨132, by decide, HTQ.out⟩
      have hE4 := HE.out.keep (QE.k3 (K3.kx hKa4 hX4))
      have hO4 := HO.out.kx hKa4 (fun i e => by have := HGO.out i e; show ¬ (i = g ∨ i = q); omega)
      have cz := hKa4.cell c1a (by show ¬ (z = g ∨ z = q); omega)
      have zz := hKa4.frz z1a (by show ¬ (z = g ∨ z = q); omega) (World.block_lt_of_cell? _ _ c1a)
      have hR4 : RD (zo z q) w4 q r2 := h4.kx hK34 (fun i e _ => .inr (by omega)) (by omega)
      have hK4 : KX (zq z q) w1 w4 := HKa.out.next hKa4 (fun i e => by rcases e with e | e; exact .inr (by have := HKa.out.size; have := HRL.out; omega); exact .inl (.inr e))
      have hT4 : ZB w4 z 6 nz fz 70 := HZT.out.kx hKa4 (by omega)
      have HR4 := Lib.hid hR4; have HK4 := Lib.hid hK4; have HT4 := Lib.hid hT4; have HE4 := Lib.hid hE4; have HU4 := Lib.hid hU4; have HO4 := Lib.hid hO4; have HW4 := Lib.hid hw4; have H2 := Lib.hid h1
      have g0 := hb4.cell 0 (by omega); have g1 := hb4.cell 1 (by omega)
      have hsz : w4.heap.size = w3.heap.size := by rw [← hw4]; simp [World.setCell]
      have hly : Lies (w4.alloc (.cells #[.int .i64 a, .slice B un.length d] 111)) (some ⟨w3.heap.size, 0, none⟩) (ql ⟨a, un⟩ B d) := by
        have := lies_cells w4 #[.int .i64 a, .slice B un.length d] 111
        rw [hsz] at this
        exact this
      have hOa := hO4.alloc (.cells #[.int .i64 a, .slice B un.length d] 111)
      have hb2 : q + 1 ≤ (w4.alloc (.cells #[.int .i64 a, .slice B un.length d] 111)).heap.size := by have := hR4.bit; simp; omega
      have hBal : Below w4.heap.size w4 (w4.alloc (.cells #[.int .i64 a, .slice B un.length d] 111)) := nxa (Below.refl _ _) _
      have cza := (KX.of (X := fun _ => False) hBal).cell cz (fun e => e)
      have zza := (KX.of (X := fun _ => False) hBal).frz zz (fun e => e) (World.block_lt_of_cell? _ _ cz)
      have HCZ := Lib.hid cza; have HZZ := Lib.hid zza; have HOA := Lib.hid hOa; have HLY := Lib.hid hly; have HB2 := Lib.hid hb2
      rw [← hw4] at cz g0 g1
      clear h1 h4 h5 hU hb3 hb4 hK34 hKa4 hU4 hX4 hE4 hO4 hR4 hK4 hT4 hw4 hsz hly hOa hb2 hBal cza zza zz
      go_wp2_with (at_builtin; rw [HW4.out]; refine wpList_app (o := ⟨some 15, _, _, _, _, _⟩) E68 rfl rfl rfl HOA.out rfl HLY.out rfl (ql_one ⟨a, un⟩ B d) (by have := hN.out; unfold maxLen; omega) (by have := hN.out; omega) HB2.out ?_; intro A5 c5 w5 hO5 hG5 hB5; have c6 := (hB5.cell (p := ⟨z, 6, none⟩) (show z < q + 1 by omega)).trans HCZ.out; have z6 := (hB5.frozen (p := ⟨z, 6, none⟩) (show z < q + 1 by omega)).trans HZZ.out)
      simp +zetaDelta [bodyPost, results, Try.results113]
      exact IE.closeZ hq hzq HK4.out HR4.out HE4.out ⟨B, d, rfl, HU4.out⟩ (fun _ _ => QE.k3) HO4.out (by decide) hO5 hG5 hB5 c6 z6 HT4.out (by decide) (rPN_3 H1.out H2.out)
    · simp +zetaDelta [bodyPost]
      exact .inr ⟨rPN_2 H1.out h1, rfl, (HKa.out.next HK2.out (fun i e => by rcases e with e | e; exact .inr (by have := HKa.out.size; have := HRL.out; omega); exact .inl (.inr e))).trans (h3.mono (fun i e => .inr e))⟩
  · simp +zetaDelta [bodyPost]
    exact .inr ⟨rPN_1 f1, rfl, HKa.out.next f3 (fun i e => by rcases e with e | e; exact .inr (by have := HKa.out.size; have := HRL.out; omega); exact .inl (.inr e))⟩
end Go.Proofs.Ytjebmmmjjiomfaa
