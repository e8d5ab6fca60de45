/- The walk of a reader's list. -/
import Derived.Test.YtjebmmmjjiomfaaCRVec
namespace Go.Proofs.Ytjebmmmjjiomfaa
open Go.RowKit

theorem E65 : Elem Try.prog 65 3 (.int .i64 0) 1 8 := ⟨Try.underlying65, by kernel_rfl, rfl, by omega⟩
theorem KX.past {X : Nat → Prop} {a b c : World} (h : KX X a b) (k : Below a.heap.size b c) : KX X a c :=
  ⟨h.zero.trans (k.mono (Nat.zero_le _)), fun i hi hx => (k.block i hi).trans (h.keep i hi hx)⟩
theorem KX.ofB {B : Nat} {w w' : World} (h : Below B w w') : KX (fun b => B ≤ b) w w' := ⟨h.mono (Nat.zero_le _), fun b _ hx => h.block b (by omega)⟩
theorem Ow.kx {X : Nat → Prop} {w w' : World} {base : Nat} {e : TypeId} {size : Nat} {A : Option Addr} {n c : Nat} {xs : List Value} (h : Ow w base e size A n c xs) (k : KX X w w') (hX : ∀ g, A = some ⟨g, 0, none⟩ → ¬ X g) : Ow w' base e size A n c xs := by
  obtain ⟨hl, hv | ⟨g, cap, cur, hv, hg2, hh, r⟩⟩ := h
  · exact ⟨hl, .inl hv⟩
  · refine ⟨hl, .inr ⟨g, cap, cur, hv, hg2, (k.keep g (Array.getElem?_eq_some_iff.1 hh).1 ?_).trans hh, r⟩⟩
    injection hv with hA
    exact hX g hA
theorem Ow.inb {w : World} {base : Nat} {e : TypeId} {size : Nat} {A : Option Addr} {n c : Nat} {xs : List Value} (h : Ow w base e size A n c xs) {g : Nat} (hg : A = some ⟨g, 0, none⟩) : base ≤ g ∧ g < w.heap.size := by
  subst hg; exact World.ownsRow.lt h g rfl
/-- what a list's loop carries -/
def IL (z q : Nat) (acc : List Int) (w : World) : Prop := ∃ A c, w.cell? ⟨z, 0, none⟩ = some (.slice A acc.length c) ∧ w.frozen? ⟨z, 0, none⟩ = false ∧ Ow w (q + 1) 3 1 A acc.length c (iv acc)
theorem rIs_one1 {l : List UInt8} : ∀ {ns : List Int} {r : List UInt8}, rIs 1 l = some (ns, r) → ∃ a, ns = [a] ∧ rI l = some (a, r) := by
  intro ns r h
  obtain ⟨x, h1, h2⟩ := bind2 h
  obtain ⟨y, h3, h4⟩ := bind2 h2
  injection h3 with h3; subst h3
  injection h4 with h4; injection h4 with h4 h5; subst h4 h5
  exact ⟨x.1, rfl, h1⟩
theorem rIs_one1_none {l : List UInt8} (h : rIs 1 l = none) : rI l = none := by
  cases e : rI l with
  | none => rfl
  | some x => rw [rIs, e] at h; cases h
set_option maxRecDepth 100000 in
set_option maxHeartbeats 2000000 in
theorem rlist1_ok (z q : Nat) (acc : List Int) (l : List UInt8) (w1 wr : World) (hq : q + 1 = w1.heap.size) (hzq : z < q) (hK : KX (zq z q) w1 wr) (hR : RD (zo z q) wr q l) (hI : IL z q acc wr) (hN : Hid (acc.length + l.length ≤ 1073741824)) :
    Calls Try.prog 120 #[.pointer (some ⟨q, 0, none⟩), .pointer (some ⟨z, 0, none⟩)] wr (Round rI (IL z) z q w1 acc l) := by
  have hbit := hR.bit
  obtain ⟨A, c, c1, z1, hO⟩ := hI
  obtain ⟨g, hg⟩ : ∃ g, wr.heap.size = g := ⟨_, rfl⟩
  obtain ⟨wa, hwa⟩ : ∃ wa, (wr.alloc (.cells #[.int .i64 0] 3)).alloc (.cells #[.pointer (some ⟨g, 0, none⟩)] 106) = wa := ⟨_, rfl⟩
  have hBa : Below wr.heap.size wr wa := by rw [← hwa]; exact nxa (nxa (Below.refl _ _) _) _
  have hza : wa.heap.size = g + 1 + 1 := by rw [← hwa]; simp [hg]
  have k0 : wa.heap[g]? = some (.cells #[.int .i64 0] 3) := by
    rw [← hwa, Below.heap_alloc _ _ _ (by simp; omega), ← hg]; exact heap_alloc_new _ _
  have hRa : RD (zo z q) wa q l := hR.kx (X := zo z q) (Y := fun _ => False) (KX.of hBa) (fun _ e _ => e.elim) (fun e => e)
  have hrow : SlX (fun b => b = q ∨ ∃ t ∈ [(⟨g, 0, none⟩ : Addr)], t.block = b) wa (some ⟨g + 1, 0, none⟩) 1 1 ([(⟨g, 0, none⟩ : Addr)].map fun q => .pointer (some q)) := by
    refine ⟨⟨rfl, Nat.le_refl _, by unfold maxLen; omega, ?_⟩, .inr ⟨_, rfl, ?_⟩⟩
    · have := lies_cells (wr.alloc (.cells #[.int .i64 0] 3)) #[.pointer (some ⟨g, 0, none⟩)] 106
      rw [hwa, show (wr.alloc (.cells #[.int .i64 0] 3)).heap.size = g + 1 by simp [hg]] at this
      exact this
    · simp; omega
  have HC := Lib.hid (rints_ok q (zo z q) l (some ⟨g + 1, 0, none⟩) 1 1 [⟨g, 0, none⟩] wa hRa (.inr (Nat.le_refl _)) hrow
    (fun t ht => by simp at ht; subst ht; exact ⟨.inr (by show q ≤ g; omega), by show g ≠ q; omega, ⟨0, cell_of k0 0⟩, frz_of k0 0⟩) (Lib.hid (by simp)))
  have c1a := (KX.of (X := fun _ => False) hBa).cell c1 (fun e => e)
  have z1a := (KX.of (X := fun _ => False) hBa).frz z1 (fun e => e) (World.block_lt_of_cell? _ _ c1)
  have hOa : Ow wa (q + 1) 3 1 A acc.length c (iv acc) := hO.below hBa
  have hgO : ∀ i, A = some ⟨i, 0, none⟩ → i < g := fun i e => by have := hO.inb e; omega
  have HKa := Lib.hid (hK.past (hBa.mono (by have := hK.size; omega)))
  have HO := Lib.hid hOa; have HGO := Lib.hid hgO; have HWA := Lib.hid hwa; have HZA := Lib.hid hza
  have hzw : z < wr.heap.size := World.block_lt_of_cell? _ _ c1
  clear hwa hBa k0 hRa hrow c1 z1 hO hOa hgO hR hK
  go_enter Try.func120, Try.ntmps120
  go_wp2_with fail
  rw [HWA.out]
  refine HC.out.mono ?_
  rintro e w2 (⟨ns, r, f1, rfl, f3, f4, f5⟩ | ⟨f1, rfl, f3⟩)
  · obtain ⟨a, rfl, f6⟩ := rIs_one1 f1
    have hcn := f5 0 _ a rfl rfl
    have c2 := (f4.cell ⟨z, 0, none⟩ (by show z ≠ q; omega) (by simp <;> omega)).trans c1a
    have z2 := (f4.frz ⟨z, 0, none⟩).trans z1a
    have hO2 := HO.out.kx f4.kx (fun i e => by have := HO.out.inb e; have := HGO.out i e; simp; omega)
    have hs2 := f4.size
    have HR3 := Lib.hid f3; have HK4 := Lib.hid f4
    clear f1 f3 f4 f5
    have hBb : Below w2.heap.size w2 (w2.alloc (.cells #[.int .i64 a] 3)) := nxa (Below.refl _ _) _
    have c2a := (KX.of (X := fun _ => False) hBb).cell c2 (fun e => e)
    have z2a := (KX.of (X := fun _ => False) hBb).frz z2 (fun e => e) (World.block_lt_of_cell? _ _ c2)
    have HK5 := Lib.hid (HKa.out.next HK4.out.kx (fun i e => by rcases e with e | ⟨t, ht, e⟩; exact .inl (.inr e); simp at ht; subst ht; exact .inr (by show w1.heap.size ≤ i; have := HKa.out.size; simp at e; omega)))
    have hq2 : q + 1 ≤ (w2.alloc (.cells #[.int .i64 a] 3)).heap.size := by have := HZA.out; simp; omega
    clear hs2
    go_wp2_with (at_builtin; refine wpList_app (o := ⟨some 10, _, _, _, _, _⟩) E65 rfl rfl rfl (hO2.alloc (.cells #[.int .i64 a] 3)) rfl (lies_new w2 (.int .i64 a) 3) rfl (iv_one [a]) (by have := hN.out; unfold maxLen; omega) (by have := hN.out; omega) hq2 ?_; intro A3 c3 w3 hO3 hG3 hB3; have c3' := (hB3.cell (p := ⟨z, 0, none⟩) (show z < q + 1 by omega)).trans c2a; have z3 := (hB3.frozen (p := ⟨z, 0, none⟩) (show z < q + 1 by omega)).trans z2a)
    go_end0
    have hKF : KX (fun b => b = z ∨ q + 1 ≤ b) w2 (w3.setCell ⟨z, 0, none⟩ (.slice A3 (acc.length + 1) c3)) := (((KX.of hBb).trans ((KX.ofB hB3).mono (fun i e => .inr e))).set ⟨z, 0, none⟩ _ (.inl (.inl rfl)))
    refine .inl ⟨a, r, f6, rfl, ?_, ⟨A3, c3, ?_, ?_, ?_⟩, ?_⟩
    · exact HR3.out.kx hKF (fun i e _ => by rcases e with e | e; exact .inl e; exact .inr (by omega)) (fun e => by rcases e with e | e <;> omega)
    · rw [List.length_append]; exact World.cell?_setCell_same _ _ _ c3'
    · rw [World.frozen?_setCell]; exact z3
    · rw [List.length_append, iv_append]
      exact hO3.kx ((KX.refl (· = z) w3).set ⟨z, 0, none⟩ _ (.inl rfl)) (fun i e => by have := hO3.inb e; omega)
    · exact HK5.out.next hKF (fun i e => by rcases e with e | e; exact .inl (.inl e); exact .inr (by omega))
  · simp [bodyPost]
    exact .inr ⟨rIs_one1_none f1, rfl, HKa.out.next f3.kx (fun i e => by rcases e with e | ⟨t, ht, e⟩; exact .inl (.inr e); simp at ht; subst ht; exact .inr (by show w1.heap.size ≤ i; have := HKa.out.size; simp at e; omega))⟩
theorem cf120 (args : Array Value) (w : World) : (callFunc 120 args).run Try.prog w = .ok (.enter 120 args) w := by kernel_rfl
/-- what a list's reader answers -/
def LV (un : List Int) (w : World) (v : Value) : Prop := ∃ B d, v = .slice B un.length d ∧ UO w B un.length d un
set_option maxRecDepth 100000 in
theorem rlist_ok (p : Nat) (X : Nat → Prop) (l : List UInt8) (w : World) (h : RD X w p l) (hX : X p) (hlen : Hid (l.length ≤ 1073741824)) :
    Calls Try.prog 112 #[.pointer (some ⟨p, 0, none⟩)] w (REnd (rL rI l) LV X p w) := by
  have hmf := hmfT
  have hbit := h.bit
  obtain ⟨z, hz⟩ : ∃ z, w.heap.size = z := ⟨_, rfl⟩
  obtain ⟨wz, hwz⟩ : ∃ wz, w.alloc (.cells #[.slice none 0 0] 65) = wz := ⟨_, rfl⟩
  have hBz : Below w.heap.size w wz := by rw [← hwz]; exact nxa (Below.refl _ _) _
  have hzz : wz.heap.size = z + 1 := by rw [← hwz]; simp [hz]
  have k0 : wz.heap[z]? = some (.cells #[.slice none 0 0] 65) := by rw [← hwz, ← hz]; exact heap_alloc_new _ _
  have hR : RD (plus X w) wz p l := h.plus.kx (Y := fun _ => False) (KX.of hBz) (fun _ e _ => e.elim) (fun e => e)
  have HV := Lib.hid (rvec_ok rI (fun _ _ _ e => (rI_less e).1) 120 #[.pointer (some ⟨z, 0, none⟩)] (IL z) z p (plus X w) l wz hR (.inl hX) (.inr (by omega)) (by omega) (by omega) (Lib.hid (by have := hlen.out; omega)) cf120
    (fun w1 q hK hq1 hq2 => ⟨none, 0, hK.cell (cell_of k0 0) (by show z ≠ p; omega), hK.frz (frz_of k0 0) (by show z ≠ p; omega) (by show z < _; omega), Ow.nil _ _ _ _⟩)
    (Lib.hid (fun w1 q acc l' wr hK0 hq1 hq2 hK hR hne hN hI => rlist1_ok z q acc l' w1 wr hq2 (by omega) hK hR hI (Lib.hid (by have := hlen.out; omega)))))
  have HB := Lib.hid hBz; have HW := Lib.hid hwz; have HZ := Lib.hid hz; have HZZ := Lib.hid hzz
  clear hBz hwz hR k0 hzz
  go_enter Try.func112, Try.ntmps112
  go_wp2_with fail
  rw [HW.out]
  refine HV.out.mono ?_
  rintro e w2 (⟨xs, r, q, f1, rfl, f3, ⟨A, c, c1, z1, hO⟩, f5, f6⟩ | ⟨f1, rfl, f3⟩)
  · have HF := Lib.hid f3; have HO := Lib.hid hO; have HK := Lib.hid f6
    clear f3 hO f6
    go_wp2_with fail
    have c2 := World.cell?_setCell_same w2 ⟨z, 0, none⟩ (.slice A xs.length c) c1
    simp [bodyPost, results, Try.results112, go_sem, c2]
    refine .inl ⟨xs, r, _, f1, rfl, ⟨A, c, rfl, ?_⟩, ?_, ?_⟩
    · exact UO.of (HO.out.kx ((KX.refl (· = z) w2).set ⟨z, 0, none⟩ _ (.inl rfl)) (fun i e => by have := HO.out.inb e; have := HZZ.out; omega))
    · exact (HF.out.kx ((KX.refl (· = z) w2).set ⟨z, 0, none⟩ _ (.inl rfl)) (fun i e _ => .inr (by have := HZ.out; omega)) (by have := HZ.out; omega)).weak (fun i _ e => .inl e)
    · exact ((KX.of (X := (· = p)) HB.out).next HK.out (fun i e => by rcases e with e | e; exact .inr (by have := HZ.out; omega); exact .inl e)).set ⟨z, 0, none⟩ _ (.inr (by show _ ≤ z; have := HZ.out; omega))
  · simp [bodyPost]
    exact .inr ⟨f1, rfl, (KX.of (X := (· = p)) HB.out).next f3 (fun i e => by rcases e with e | e; exact .inr (by have := HZ.out; omega); exact .inl e)⟩
end Go.Proofs.Ytjebmmmjjiomfaa
