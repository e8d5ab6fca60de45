/- The walk of a reader's proposals (one round). -/
import Derived.Test.YtjebmmmjjiomfaaCRCom1
namespace Go.Proofs.Ytjebmmmjjiomfaa
open Go.RowKit

theorem rProp_1 {l : List UInt8} (h : rIs 2 l = none) : rProp l = none := by unfold rProp; rw [h]; rfl
theorem rProp_2 {l r : List UInt8} {a : List Int} (h : rIs 2 l = some (a, r)) (k : rNode r = none) : rProp l = none := by
  unfold rProp; rw [h, Option.bind_some]; dsimp only; rw [k]; rfl
theorem rProp_3 {l r r2 : List UInt8} {a : List Int} {s : TN} (h : rIs 2 l = some (a, r)) (k : rNode r = some (s, r2)) (j : rIs 2 r2 = none) : rProp l = none := by
  unfold rProp; rw [h, Option.bind_some]; dsimp only; rw [k, Option.bind_some]; dsimp only; rw [j]; rfl
theorem rProp_4 {l r r2 r3 : List UInt8} {a b c d : Int} {s : TN} (h : rIs 2 l = some ([a, b], r)) (k : rNode r = some (s, r2)) (j : rIs 2 r2 = some ([c, d], r3)) : rProp l = some (⟨a, b, s, c, d⟩, r3) := by
  unfold rProp; rw [h, Option.bind_some]; dsimp only; rw [k, Option.bind_some]; dsimp only; rw [j]; rfl
theorem KX.lays' (w : World) (z o : Nat) (vs : List Value) : KX (· = z) w (w.setCells z o vs) := KX.sets (X := (· = z)) z (.inl rfl) vs o (KX.refl (· = z) w)
/-- a box with cells laid from an offset on -/
theorem Bx.setsAt {n : Nat} {t : TypeId} {z : Nat} : ∀ (vs : List Value) (o : Nat) {w : World} {f : Nat → Value}, Bx w z n f t → o + vs.length ≤ n → Bx (w.setCells z o vs) z n (fun j => if o ≤ j then (vs[j - o]?).getD (f j) else f j) t
  | [], o, w, f, h, hn => by
    rw [World.setCells]
    have : (fun j => if o ≤ j then (([] : List Value)[j - o]?).getD (f j) else f j) = f := by funext j; simp
    rw [this]; exact h
  | v :: vs, o, w, f, h, hn => by
    rw [World.setCells]
    have h1 := Bx.setsAt vs (o + 1) (h.set (j := o) (by simp at hn; omega) v) (by simp at hn; omega)
    have : (fun j => if o ≤ j then ((v :: vs)[j - o]?).getD (f j) else f j) = (fun j => if o + 1 ≤ j then (vs[j - (o + 1)]?).getD (if j = o then v else f j) else (if j = o then v else f j)) := by
      funext j
      by_cases h0 : j = o
      · subst h0; rw [if_pos (Nat.le_refl _), if_neg (by omega), if_pos rfl]; simp
      · by_cases h2 : o + 1 ≤ j
        · rw [if_pos (by omega), if_pos h2, if_neg h0]
          obtain ⟨i, hi⟩ : ∃ i, j - o = i + 1 := ⟨j - o - 1, by omega⟩
          rw [hi, show j - (o + 1) = i by omega, List.getElem?_cons_succ]
        · rw [if_neg (by omega), if_neg h2, if_neg h0]
    rw [this]; exact h1
set_option maxRecDepth 100000 in
set_option maxHeartbeats 8000000 in
/-- one round of TakeCommit's proposals -/
theorem rprop1_ok (nz : Nat) (fz : Nat → Value) (z q : Nat) (acc : List PR) (l : List UInt8) (w1 wr : World) (hq : q + 1 = w1.heap.size) (hzq : z < q) (hK : KX (zq z q) w1 wr) (hR : RD (zo z q) wr q l) (hz : ZB wr z 2 nz fz 72) (hI : IE PE 109 10 ⟨z, 2, none⟩ q acc wr) (hN : Hid (acc.length + l.length ≤ 1073741824)) :
    Calls Try.prog 83 #[.pointer (some ⟨q, 0, none⟩), .pointer (some ⟨z, 0, none⟩)] wr (Round rProp (fun q acc w => IE PE 109 10 ⟨z, 2, none⟩ q acc w ∧ ZB w z 2 nz fz 72) z q w1 acc l) := by
  have hbit := hR.bit
  obtain ⟨A, c, cs, c1, z1, hO, hE⟩ := hI
  have hTq : IsT wr q 132 := by obtain ⟨_, _, _, _, _, h⟩ := hR; exact h
  have hzw : z < wr.heap.size := World.block_lt_of_cell? _ _ c1
  obtain ⟨g, hg⟩ : ∃ g, wr.heap.size = g := ⟨_, rfl⟩
  obtain ⟨wa, hwa⟩ : ∃ wa, wr.alloc (.cells #[.int .i64 0, .int .i64 0, .int .i64 0, .int .i64 0, .int .i64 0, .int .i64 0, .int .i64 0, .slice none 0 0, .int .i64 0, .int .i64 0] 109) = wa := ⟨_, rfl⟩
  have hza : wa.heap.size = g + 1 := by rw [← hwa]; simp [hg]
  have hBa : Below wr.heap.size wr wa := by rw [← hwa]; exact nxa (Below.refl _ _) _
  have hbx : Bx wa g 10 pf0 109 := Bx.of (by rw [← hwa, ← hg]; exact heap_alloc_new _ _) (fun j hj => by
    match j, hj with
    | 0, _ => rfl | 1, _ => rfl | 2, _ => rfl | 3, _ => rfl | 4, _ => rfl | 5, _ => rfl | 6, _ => rfl | 7, _ => rfl | 8, _ => rfl | 9, _ => rfl
    | j + 10, h => exact absurd h (by omega))
  have hRa : RD (zo z q) wa q l := hR.kx (Y := fun _ => False) (KX.of hBa) (fun _ e _ => e.elim) (fun e => e)
  have HC := Lib.hid (rintsB [0, 1] 2 #[.pointer (some ⟨g, 0, none⟩), .pointer (some ⟨g, 1, none⟩)] rfl rfl (by omega) hRa (.inr (Nat.le_refl _)) (.inr (by omega)) (by omega) hbx (fun j hj => by simp at hj; rcases hj with rfl | rfl <;> exact ⟨by omega, 0, rfl⟩) (by decide))
  rw [hza] at HC
  have HKa := Lib.hid (hK.past (hBa.mono (by have := hK.size; omega)))
  have c1a := (KX.of (X := fun _ => False) hBa).cell c1 (fun e => e)
  have z1a := (KX.of (X := fun _ => False) hBa).frz z1 (fun e => e) hzw
  have HGO : Hid (∀ i, A = some ⟨i, 0, none⟩ → q + 1 ≤ i ∧ i < g) := Lib.hid (fun i e => by have := hO.inb e; omega)
  have HO := Lib.hid (hO.below hBa); have HE := Lib.hid (hE.keep (PE.k3 (K3.of hBa))); have HWA := Lib.hid hwa
  have HTQ := Lib.hid (hTq.kx (X := fun _ => False) (KX.of hBa) (fun e => e)); have HZT := Lib.hid (hz.kx (X := fun _ => False) (KX.of hBa) (fun e => e)); have HTG := Lib.hid hbx.ty
  have HRL := Lib.hid hza
  have hga : g < wa.heap.size := by omega
  clear hwa hBa hbx hRa hK hR hz hO hE hTq c1 z1 hza
  go_enter Try.func83, Try.ntmps83
  go_wp2_with fail
  rw [HWA.out]
  refine HC.out.mono ?_
  rintro e w2 (⟨ns, r, f1, rfl, f3, f4, f5⟩ | ⟨f1, rfl, f3⟩)
  · obtain ⟨a, b, rfl⟩ := list2 (rIs_less f1).2
    have hrl := (rIs_less f1).1
    have HT := Lib.hid (rnode_ok q (zo z q) r w2 f3 (.inr (Nat.le_refl _)) (Lib.hid (by have := hN.out; omega)))
    have HB1 := Lib.hid f4; have HK2 := Lib.hid f5; have H1 := Lib.hid f1
    clear f1 f3 f4 f5
    go_wp2_with fail
    refine HT.out.mono ?_
    rintro e w3 (⟨s, r2, v, h1, rfl, ⟨B, d, rfl, hU⟩, h4, h5⟩ | ⟨h1, rfl, h3⟩)
    · have hb3 := HB1.out.kx h5 (by omega)
      have y2 := hb3.cell 2 (by omega); have y3 := hb3.cell 3 (by omega); have y4 := hb3.cell 4 (by omega); have y5 := hb3.cell 5 (by omega); have y6 := hb3.cell 6 (by omega); have y7 := hb3.cell 7 (by omega)
      have x2 := hb3.fr 2; have x3 := hb3.fr 3; have x4 := hb3.fr 4; have x5 := hb3.fr 5; have x6 := hb3.fr 6; have x7 := hb3.fr 7
      have hb4 := hb3.setsAt [.int .i64 s.k, .int .i64 s.id, .int .i64 s.enc, .int .i64 s.sig, .int .i64 s.hash, .slice B s.un.length d] 2 (by simp)
      obtain ⟨w4, hw4⟩ : ∃ w4, (((((w3.setCell ⟨g, 2, none⟩ (.int .i64 s.k)).setCell ⟨g, 3, none⟩ (.int .i64 s.id)).setCell ⟨g, 4, none⟩ (.int .i64 s.enc)).setCell ⟨g, 5, none⟩ (.int .i64 s.sig)).setCell ⟨g, 6, none⟩ (.int .i64 s.hash)).setCell ⟨g, 7, none⟩ (.slice B s.un.length d) = w4 := ⟨_, rfl⟩
      rw [show w3.setCells g 2 [.int .i64 s.k, .int .i64 s.id, .int .i64 s.enc, .int .i64 s.sig, .int .i64 s.hash, .slice B s.un.length d] = w4 from hw4] at hb4
      have hK34 : KX (· = g) w3 w4 := by rw [← hw4]; exact KX.lays' w3 g 2 [.int .i64 s.k, .int .i64 s.id, .int .i64 s.enc, .int .i64 s.sig, .int .i64 s.hash, .slice B s.un.length d]
      have hKa4 : KX (zq g q) wa w4 := (HK2.out.trans (h5.mono (fun i e => .inr e))).trans (hK34.mono (fun i e => .inl e))
      have hU4 : UO w4 B s.un.length d s.un := hU.k3 (K3.kx hK34 (fun b e => ⟨109, by decide, by subst e; exact hb3.ty⟩))
      have hR4 : RD (zo z q) w4 q r2 := h4.kx hK34 (fun i e _ => .inr (by omega)) (by omega)
      have hsz : w4.heap.size = w3.heap.size := by rw [← hw4]; simp [World.setCell]
      have HC2 := Lib.hid (rintsB [8, 9] 2 #[.pointer (some ⟨g, 8, none⟩), .pointer (some ⟨g, 9, none⟩)] rfl rfl (by omega) hR4 (.inr (Nat.le_refl _)) (.inr (by omega)) (by omega) hb4 (fun j hj => by simp at hj; rcases hj with rfl | rfl <;> exact ⟨by omega, 0, rfl⟩) (by decide))
      rw [hsz] at HC2
      have HTG4 := Lib.hid hb4.ty; have HTQ4 : Hid (IsT w4 q 132) := Lib.hid (by obtain ⟨_, _, _, _, _, h⟩ := hR4; exact h)
      have HKb : Hid (w1.heap.size ≤ g) := Lib.hid (by have := HKa.out.size; have := HRL.out; show _ ≤ _; omega)
      have HU4 := Lib.hid hU4; have HKA4 := Lib.hid hKa4; have HW4 := Lib.hid hw4; have H2 := Lib.hid h1
      have hr2 := rNode_less h1
      clear h1 h4 h5 hU hb3 hb4 hK34 hKa4 hU4 hR4 hw4 hsz
      unfold nv
      go_wp2_with fail
      rw [HW4.out]
      clear y2 y3 y4 y5 y6 y7 x2 x3 x4 x5 x6 x7
      refine HC2.out.mono ?_
      rintro e w5 (⟨ms, r3, g1, rfl, g3, g4, g5⟩ | ⟨g1, rfl, g3⟩)
      · obtain ⟨a2, b2, rfl⟩ := list2 (rIs_less g1).2
        have hrl3 := (rIs_less g1).1
        have hKa5 : KX (zq g q) wa w5 := HKA4.out.trans g5
        have hX : ∀ b, zq g q b → ∃ T : TypeId, T ≠ 3 ∧ IsT wa b T := fun b e => by
          rcases e with e | e
          · subst e; exact ⟨109, by decide, HTG.out⟩
          · subst e; exact ⟨132, by decide, HTQ.out⟩
        have hX4 : ∀ b, zq g q b → ∃ T : TypeId, T ≠ 3 ∧ IsT w4 b T := fun b e => by
          rcases e with e | e
          · subst e; exact ⟨109, by decide, HTG4.out⟩
          · subst e; exact ⟨132, by decide, HTQ4.out⟩
        have hU5 := HU4.out.k3 (K3.kx g5 hX4)
        have hE5 := HE.out.keep (PE.k3 (K3.kx hKa5 hX))
        have hO5 := HO.out.kx hKa5 (fun i e => by have := HGO.out i e; show ¬ (i = g ∨ i = q); omega)
        have cz := hKa5.cell c1a (by show ¬ (z = g ∨ z = q); omega)
        have zz := hKa5.frz z1a (by show ¬ (z = g ∨ z = q); omega) (World.block_lt_of_cell? _ _ c1a)
        have hK5 : KX (zq z q) w1 w5 := HKa.out.next hKa5 (fun i e => by rcases e with e | e; exact .inr (by have := HKa.out.size; have := HRL.out; omega); exact .inl (.inr e))
        have hT5 : ZB w5 z 2 nz fz 72 := HZT.out.kx hKa5 (by show ¬ (z = g ∨ z = q); omega)
        have u0 : w5.cell? ⟨g, 0, none⟩ = some (.int .i64 a) := g4.cell 0 (by omega)
        have u1 : w5.cell? ⟨g, 1, none⟩ = some (.int .i64 b) := g4.cell 1 (by omega)
        have u2 : w5.cell? ⟨g, 2, none⟩ = some (.int .i64 s.k) := g4.cell 2 (by omega)
        have u3 : w5.cell? ⟨g, 3, none⟩ = some (.int .i64 s.id) := g4.cell 3 (by omega)
        have u4 : w5.cell? ⟨g, 4, none⟩ = some (.int .i64 s.enc) := g4.cell 4 (by omega)
        have u5 : w5.cell? ⟨g, 5, none⟩ = some (.int .i64 s.sig) := g4.cell 5 (by omega)
        have u6 : w5.cell? ⟨g, 6, none⟩ = some (.int .i64 s.hash) := g4.cell 6 (by omega)
        have u7 : w5.cell? ⟨g, 7, none⟩ = some (.slice B s.un.length d) := g4.cell 7 (by omega)
        have u8 : w5.cell? ⟨g, 8, none⟩ = some (.int .i64 a2) := g4.cell 8 (by omega)
        have u9 : w5.cell? ⟨g, 9, none⟩ = some (.int .i64 b2) := g4.cell 9 (by omega)
        obtain ⟨P, hP⟩ : ∃ P : PR, (⟨a, b, s, a2, b2⟩ : PR) = P := ⟨_, rfl⟩
        obtain ⟨o, ho⟩ : ∃ o : Obj, Obj.cells #[.int .i64 a, .int .i64 b, .int .i64 s.k, .int .i64 s.id, .int .i64 s.enc, .int .i64 s.sig, .int .i64 s.hash, .slice B s.un.length d, .int .i64 a2, .int .i64 b2] 109 = o := ⟨_, rfl⟩
        have hly : Lies (w5.alloc o) (some ⟨w5.heap.size, 0, none⟩) (pl ⟨a, b, s, a2, b2⟩ B d) := by rw [← ho]; exact lies_cells w5 _ 109
        have hOa := hO5.alloc o
        have hb2 : q + 1 ≤ (w5.alloc o).heap.size := by have := g3.bit; simp; omega
        have hBal : Below w5.heap.size w5 (w5.alloc o) := nxa (Below.refl _ _) _
        have cza := (KX.of (X := fun _ => False) hBal).cell cz (fun e => e)
        have zza := (KX.of (X := fun _ => False) hBal).frz zz (fun e => e) (World.block_lt_of_cell? _ _ cz)
        have HCZ := Lib.hid cza; have HZZ := Lib.hid zza; have HOA := Lib.hid hOa; have HLY := Lib.hid hly; have HB2 := Lib.hid hb2
        have HR5 := Lib.hid g3; have HK5 := Lib.hid hK5; have HT5 := Lib.hid hT5; have HE5 := Lib.hid hE5; have HU5 := Lib.hid hU5; have HO5 := Lib.hid hO5; have H3 := Lib.hid g1; have HOO := Lib.hid ho
        clear g1 g3 g4 g5 hKa5 hX hX4 hU5 hE5 hO5 zz hK5 hT5 hly hOa hb2 hBal cza zza hP P ho
        go_wp2_with (at_builtin; rw [HOO.out]; refine wpList_app (o := ⟨some 21, _, _, _, _, _⟩) E64 rfl rfl rfl HOA.out rfl HLY.out rfl (pl_one ⟨a, b, s, a2, b2⟩ B d) (by have := hN.out; unfold maxLen; omega) (by have := hN.out; omega) HB2.out ?_; intro A5 c5 w6 hO6 hG5 hB5; have c6 := (hB5.cell (p := ⟨z, 2, none⟩) (show z < q + 1 by omega)).trans HCZ.out; have z6 := (hB5.frozen (p := ⟨z, 2, none⟩) (show z < q + 1 by omega)).trans HZZ.out)
        simp +zetaDelta [bodyPost, results, Try.results83]
        exact IE.closeZ hq hzq HK5.out HR5.out HE5.out ⟨B, d, rfl, HU5.out⟩ (fun _ _ => PE.k3) HO5.out (by decide) hO6 hG5 hB5 c6 z6 HT5.out (by decide) (rProp_4 H1.out H2.out H3.out)
      · simp +zetaDelta [bodyPost]
        exact .inr ⟨rProp_3 H1.out H2.out g1, rfl, (HKa.out.next HKA4.out (fun i e => by rcases e with e | e; exact .inr (by have := HKa.out.size; have := HRL.out; omega); exact .inl (.inr e))).next g3 (fun i e => by rcases e with e | e; exact .inr (by have := HKa.out.size; have := HRL.out; have := HKb.out; omega); exact .inl (.inr e))⟩
    · simp +zetaDelta [bodyPost]
      exact .inr ⟨rProp_2 H1.out h1, rfl, (HKa.out.next HK2.out (fun i e => by rcases e with e | e; exact .inr (by have := HKa.out.size; have := HRL.out; omega); exact .inl (.inr e))).trans (h3.mono (fun i e => .inr e))⟩
  · simp +zetaDelta [bodyPost]
    exact .inr ⟨rProp_1 f1, rfl, HKa.out.next f3 (fun i e => by rcases e with e | e; exact .inr (by have := HKa.out.size; have := HRL.out; omega); exact .inl (.inr e))⟩
end Go.Proofs.Ytjebmmmjjiomfaa
