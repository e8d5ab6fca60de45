/- The walk of a reader's node. -/
import Derived.Test.YtjebmmmjjiomfaaCRList
namespace Go.Proofs.Ytjebmmmjjiomfaa
open Go.RowKit

theorem rNode0 {l r : List UInt8} {k : Int} (h : rI l = some (k, r)) (hk : k = 0) : rNode l = some (nd0, r) := by
  unfold rNode; rw [h, Option.bind_some, if_pos hk]
theorem rNode1 {l r : List UInt8} {k : Int} (h : rI l = some (k, r)) (hk : k = 1) : rNode l = (rIs 4 r).bind fun y => some (nd1 y.1, y.2) := by
  unfold rNode; rw [h, Option.bind_some, if_neg (by show ¬ k = 0; omega), if_pos hk]
theorem rNode2 {l r : List UInt8} {k : Int} (h : rI l = some (k, r)) (hk : k = 2) : rNode l = (rIs 2 r).bind fun y => (rL rI y.2).bind fun z => some (nd2 y.1 z.1, z.2) := by
  unfold rNode; rw [h, Option.bind_some, if_neg (by show ¬ k = 0; omega), if_neg (by show ¬ k = 1; omega), if_pos hk]
theorem rNodeX {l r : List UInt8} {k : Int} (h : rI l = some (k, r)) (h0 : k ≠ 0) (h1 : k ≠ 1) (h2 : k ≠ 2) : rNode l = none := by
  unfold rNode; rw [h, Option.bind_some, if_neg h0, if_neg h1, if_neg h2]
theorem rNodeN {l : List UInt8} (h : rI l = none) : rNode l = none := by unfold rNode; rw [h]; rfl
/-- what a node's reader answers -/
def NV (s : TN) (w : World) (v : Value) : Prop := ∃ B d, v = nv s B s.un.length d ∧ UO w B s.un.length d s.un
/-- a node laid back into its own box -/
def lay6 (w : World) (z : Nat) (a b c d e f : Value) : World :=
  (((((w.setCell ⟨z, 0, none⟩ a).setCell ⟨z, 1, none⟩ b).setCell ⟨z, 2, none⟩ c).setCell ⟨z, 3, none⟩ d).setCell ⟨z, 4, none⟩ e).setCell ⟨z, 5, none⟩ f
theorem lay6_kx (w : World) (z : Nat) (a b c d e f : Value) : KX (· = z) w (lay6 w z a b c d e f) :=
  ((((((KX.refl (· = z) w).set ⟨z, 0, none⟩ _ (.inl rfl)).set ⟨z, 1, none⟩ _ (.inl rfl)).set ⟨z, 2, none⟩ _ (.inl rfl)).set ⟨z, 3, none⟩ _ (.inl rfl)).set ⟨z, 4, none⟩ _ (.inl rfl)).set ⟨z, 5, none⟩ _ (.inl rfl)
theorem lay6_cells {w : World} {z : Nat} {a b c d e f a0 b0 c0 d0 e0 f0 : Value} (h0 : w.cell? ⟨z, 0, none⟩ = some a0) (h1 : w.cell? ⟨z, 1, none⟩ = some b0) (h2 : w.cell? ⟨z, 2, none⟩ = some c0) (h3 : w.cell? ⟨z, 3, none⟩ = some d0) (h4 : w.cell? ⟨z, 4, none⟩ = some e0) (h5 : w.cell? ⟨z, 5, none⟩ = some f0) :
    (lay6 w z a b c d e f).cell? ⟨z, 0, none⟩ = some a ∧ (lay6 w z a b c d e f).cell? ⟨z, 1, none⟩ = some b ∧ (lay6 w z a b c d e f).cell? ⟨z, 2, none⟩ = some c ∧
    (lay6 w z a b c d e f).cell? ⟨z, 3, none⟩ = some d ∧ (lay6 w z a b c d e f).cell? ⟨z, 4, none⟩ = some e ∧ (lay6 w z a b c d e f).cell? ⟨z, 5, none⟩ = some f := by
  unfold lay6
  refine ⟨?_, ?_, ?_, ?_, ?_, ?_⟩ <;> simp [go_sem, h0, h1, h2, h3, h4, h5]
theorem node_close {w w2 w3 : World} {p z d : Nat} {X : Nat → Prop} {l r : List UInt8} {s : TN} {B : Option Addr} (hz : w.heap.size = z) (hpz : p < z) (HR : RD (plus X w) w2 p r) (HK : KX (· = p) w w2) (hT : IsT w2 z 67) (hL : KX (· = z) w2 w3)
    (hN : rNode l = some (s, r)) (hU : UO w2 B s.un.length d s.un) : REnd (rNode l) NV X p w (.returned (nv s B s.un.length d)) w3 := by
  refine .inl ⟨s, r, _, hN, rfl, ⟨B, d, rfl, hU.k3 (K3.kx hL (fun b e => ⟨67, by decide, by subst e; exact hT⟩))⟩, (HR.kx hL (fun i e _ => .inr (by omega)) (by omega)).weak (fun i _ e => .inl e), HK.next hL (fun i e => .inr (by omega))⟩
/-- a row of pointers that was just laid -/
theorem SlX.row {Y : Nat → Prop} {w : World} {ts : List Addr} {n : Nat} (cs : Array Value) (hn : ts.length = n) (hcs : cs.toList = ts.map fun q => .pointer (some q)) (hx : n ≤ 1000) (hY : ¬ Y w.heap.size) : SlX Y (w.alloc (.cells cs 106)) (some ⟨w.heap.size, 0, none⟩) n n (ts.map fun q => .pointer (some q)) := by
  refine ⟨⟨by simpa using hn, Nat.le_refl _, by unfold maxLen; omega, ?_⟩, .inr ⟨_, rfl, hY⟩⟩
  rw [← hcs]; exact lies_cells w cs 106
set_option maxRecDepth 100000 in
set_option maxHeartbeats 4000000 in
theorem rnode_ok (p : Nat) (X : Nat → Prop) (l : List UInt8) (w : World) (h : RD X w p l) (hX : X p) (hlen : Hid (l.length ≤ 1073741824)) :
    Calls Try.prog 84 #[.pointer (some ⟨p, 0, none⟩)] w (REnd (rNode l) NV X p w) := by
  have hbit := h.bit
  obtain ⟨z, hz⟩ : ∃ z, w.heap.size = z := ⟨_, rfl⟩
  obtain ⟨wz, hwz⟩ : ∃ wz, w.alloc (.cells #[.int .i64 0, .int .i64 0, .int .i64 0, .int .i64 0, .int .i64 0, .slice none 0 0] 67) = wz := ⟨_, rfl⟩
  obtain ⟨wa, hwa⟩ : ∃ wa, wz.alloc (.cells #[.pointer (some ⟨z, 0, none⟩)] 106) = wa := ⟨_, rfl⟩
  have hBz : Below w.heap.size w wz := by rw [← hwz]; exact nxa (Below.refl _ _) _
  have hzz : wz.heap.size = z + 1 := by rw [← hwz]; simp [hz]
  have hBa : Below w.heap.size w wa := by rw [← hwa]; exact nxa hBz _
  have k0 : wa.heap[z]? = some (.cells #[.int .i64 0, .int .i64 0, .int .i64 0, .int .i64 0, .int .i64 0, .slice none 0 0] 67) := by
    rw [← hwa, Below.heap_alloc _ _ _ (by omega), ← hwz, ← hz]; exact heap_alloc_new _ _
  have hR : RD (plus X w) wa p l := h.plus.kx (Y := fun _ => False) (KX.of hBa) (fun _ e _ => e.elim) (fun e => e)
  have hrow : SlX (fun b => b = p ∨ ∃ t ∈ [(⟨z, 0, none⟩ : Addr)], t.block = b) wa (some ⟨z + 1, 0, none⟩) 1 1 ([(⟨z, 0, none⟩ : Addr)].map fun q => .pointer (some q)) := by
    refine ⟨⟨rfl, Nat.le_refl _, by unfold maxLen; omega, ?_⟩, .inr ⟨_, rfl, ?_⟩⟩
    · have := lies_cells wz #[.pointer (some ⟨z, 0, none⟩)] 106
      rw [hwa, hzz] at this
      exact this
    · simp; omega
  have HC := Lib.hid (rints_ok p (plus X w) l (some ⟨z + 1, 0, none⟩) 1 1 [⟨z, 0, none⟩] wa hR (.inl hX) hrow
    (fun t ht => by simp at ht; subst ht; exact ⟨.inr (by show _ ≤ z; omega), by show z ≠ p; omega, ⟨0, cell_of k0 0⟩, frz_of k0 0⟩) (Lib.hid (by simp)))
  have HB := Lib.hid hBa; have HW := Lib.hid hwz; have HWA := Lib.hid hwa; have HZ := Lib.hid hz; have HK0 := Lib.hid k0; have HX := Lib.hid hX
  have hpz : p < z := by omega
  clear hBz hBa hwz hwa hR k0 hrow h hX
  go_enter Try.func84, Try.ntmps84
  go_wp2_with fail
  rw [HW.out, HWA.out]
  clear hz hzz hbit
  refine HC.out.mono ?_
  rintro e w2 (⟨ns, r, f1, rfl, f3, f4, f5⟩ | ⟨f1, rfl, f3⟩)
  · obtain ⟨k, rfl, f6⟩ := rIs_one1 f1
    have HR := Lib.hid f3; have HK := Lib.hid f4; have H6 := Lib.hid f6
    have c0 := f5 0 _ k rfl rfl
    have c1 := (f4.cell ⟨z, 1, none⟩ (by show z ≠ p; omega) (by simp)).trans (cell_of HK0.out 1)
    have c2 := (f4.cell ⟨z, 2, none⟩ (by show z ≠ p; omega) (by simp)).trans (cell_of HK0.out 2)
    have c3 := (f4.cell ⟨z, 3, none⟩ (by show z ≠ p; omega) (by simp)).trans (cell_of HK0.out 3)
    have c4 := (f4.cell ⟨z, 4, none⟩ (by show z ≠ p; omega) (by simp)).trans (cell_of HK0.out 4)
    have c5 := (f4.cell ⟨z, 5, none⟩ (by show z ≠ p; omega) (by simp)).trans (cell_of HK0.out 5)
    have zf : ∀ j, w2.frozen? ⟨z, j, none⟩ = false := fun j => (f4.frz _).trans (frz_of HK0.out j)
    have z0 := zf 0; have z1 := zf 1; have z2 := zf 2; have z3 := zf 3; have z4 := zf 4; have z5 := zf 5
    have HZF := Lib.hid zf
    have HT : Hid (IsT w2 z 67) := Lib.hid (f4.typ _ _ ⟨_, _, HK0.out⟩)
    have HS := Lib.hid f4.size
    have HKX : Hid (KX (· = p) w w2) := Lib.hid ((KX.of (X := (· = p)) HB.out).next f4.kx (fun i e => by rcases e with e | ⟨t, ht, e⟩; exact .inl e; simp at ht; subst ht; exact .inr (by have := HZ.out; simp at e; omega)))
    clear f1 f3 f4 f5 f6 zf
    simp only [List.getElem?_toArray, List.getElem?_cons_succ, List.getElem?_cons_zero] at c1 c2 c3 c4 c5
    by_cases hk0 : k = 0
    · have t : (k == 0) = true := by rw [beq_iff_eq]; exact hk0
      have HKE := Lib.hid hk0
      clear hk0
      go_wp2_with fail
      refine (show bodyPost Try.prog Try.f84 (REnd (rNode l) NV X p w) Exit.ret _ (lay6 w2 z (.int .i64 k) (.int .i64 0) (.int .i64 0) (.int .i64 0) (.int .i64 0) (.slice none 0 0)) from ?_)
      obtain ⟨l0, l1, l2, l3, l4, l5⟩ := lay6_cells (a := .int .i64 k) (b := .int .i64 0) (c := .int .i64 0) (d := .int .i64 0) (e := .int .i64 0) (f := .slice none 0 0) c0 c1 c2 c3 c4 c5
      have hL := lay6_kx w2 z (.int .i64 k) (.int .i64 0) (.int .i64 0) (.int .i64 0) (.int .i64 0) (.slice none 0 0)
      generalize lay6 w2 z (.int .i64 k) (.int .i64 0) (.int .i64 0) (.int .i64 0) (.int .i64 0) (.slice none 0 0) = w3 at *
      simp [bodyPost, results, Try.results84, go_sem, l0, l1, l2, l3, l4, l5]
      have := node_close (s := nd0) HZ.out hpz HR.out HKX.out HT.out hL (by rw [rNode0 H6.out HKE.out]) (UO.none w2)
      rw [HKE.out]; exact this
    · by_cases hk1 : k = 1
      · have t0 : (k == 0) = false := by rw [beq_eq_false_iff_ne]; exact hk0
        have t : (k == 1) = true := by rw [beq_iff_eq]; exact hk1
        have HKE := Lib.hid hk1
        clear hk0 hk1
        obtain ⟨wb, hwb⟩ : ∃ wb, w2.alloc (.cells #[.pointer (some ⟨z, 1, none⟩), .pointer (some ⟨z, 2, none⟩), .pointer (some ⟨z, 3, none⟩), .pointer (some ⟨z, 4, none⟩)] 106) = wb := ⟨_, rfl⟩
        have hBb : Below w2.heap.size w2 wb := by rw [← hwb]; exact nxa (Below.refl _ _) _
        have b1 := (KX.of (X := fun _ => False) hBb).cell c1 (fun e => e)
        have b2 := (KX.of (X := fun _ => False) hBb).cell c2 (fun e => e)
        have b3 := (KX.of (X := fun _ => False) hBb).cell c3 (fun e => e)
        have b4 := (KX.of (X := fun _ => False) hBb).cell c4 (fun e => e)
        have hzlt : z < w2.heap.size := World.block_lt_of_cell? _ _ c0
        have bz : ∀ j, wb.frozen? ⟨z, j, none⟩ = false := fun j => (KX.of (X := fun _ => False) hBb).frz (HZF.out j) (fun e => e) hzlt
        have hRb : RD (plus X w) wb p r := HR.out.kx (Y := fun _ => False) (KX.of hBb) (fun _ e _ => e.elim) (fun e => e)
        have HC2 := Lib.hid (rints_ok p (plus X w) r (some ⟨w2.heap.size, 0, none⟩) 4 4 [⟨z, 1, none⟩, ⟨z, 2, none⟩, ⟨z, 3, none⟩, ⟨z, 4, none⟩] wb hRb (.inl HX.out) (by rw [← hwb]; exact SlX.row _ rfl rfl (by omega) (by simp; omega))
          (fun t ht => by
            simp at ht
            rcases ht with rfl | rfl | rfl | rfl
            · exact ⟨.inr (by show _ ≤ z; have := HZ.out; omega), by show z ≠ p; omega, ⟨0, b1⟩, bz 1⟩
            · exact ⟨.inr (by show _ ≤ z; have := HZ.out; omega), by show z ≠ p; omega, ⟨0, b2⟩, bz 2⟩
            · exact ⟨.inr (by show _ ≤ z; have := HZ.out; omega), by show z ≠ p; omega, ⟨0, b3⟩, bz 3⟩
            · exact ⟨.inr (by show _ ≤ z; have := HZ.out; omega), by show z ≠ p; omega, ⟨0, b4⟩, bz 4⟩) (Lib.hid (by simp)))
        have b0 := (KX.of (X := fun _ => False) hBb).cell c0 (fun e => e)
        have b5 := (KX.of (X := fun _ => False) hBb).cell c5 (fun e => e)
        have HBZ := Lib.hid bz; have HWB := Lib.hid hwb
        have HTb : Hid (IsT wb z 67) := Lib.hid (HT.out.kx (KX.of (X := fun _ => False) hBb) (fun e => e))
        have HKb : Hid (KX (· = p) w wb) := Lib.hid (HKX.out.trans (KX.of hBb))
        clear hRb bz hBb hwb b1 b2 b3 b4
        go_wp2_with fail
        rw [HWB.out]
        clear c0 c1 c2 c3 c4 c5 z0 z1 z2 z3 z4 z5
        refine HC2.out.mono ?_
        rintro e w3 (⟨ns, r3, f1, rfl, f3, f4, f5⟩ | ⟨f1, rfl, f3⟩)
        · have hnl := (rIs_less f1).2
          match ns, hnl with
          | [a, b, c, d], _ =>
            have e1 := f5 0 _ a rfl rfl
            have e2 := f5 1 _ b rfl rfl
            have e3 := f5 2 _ c rfl rfl
            have e4 := f5 3 _ d rfl rfl
            have e0 := (f4.cell ⟨z, 0, none⟩ (by show z ≠ p; omega) (by simp)).trans b0
            have e5 := (f4.cell ⟨z, 5, none⟩ (by show z ≠ p; omega) (by simp)).trans b5
            have zf : ∀ j, w3.frozen? ⟨z, j, none⟩ = false := fun j => (f4.frz _).trans (HBZ.out j)
            have z0 := zf 0; have z1 := zf 1; have z2 := zf 2; have z3 := zf 3; have z4 := zf 4; have z5 := zf 5
            have HT3 : Hid (IsT w3 z 67) := Lib.hid (f4.typ _ _ HTb.out)
            have HK3 : Hid (KX (· = p) w w3) := Lib.hid (HKb.out.next f4.kx (fun i e => by rcases e with e | ⟨t, ht, e⟩; exact .inl e; exact .inr (by have := HZ.out; simp at ht; rcases ht with rfl | rfl | rfl | rfl <;> (simp at e; omega))))
            have HR3 := Lib.hid f3; have HF1 := Lib.hid f1
            clear f1 f3 f4 f5 zf b0 b5
            go_wp2_with fail
            refine (show bodyPost Try.prog Try.f84 (REnd (rNode l) NV X p w) Exit.ret _ (lay6 w3 z (.int .i64 k) (.int .i64 a) (.int .i64 b) (.int .i64 c) (.int .i64 d) (.slice none 0 0)) from ?_)
            obtain ⟨l0, l1, l2, l3, l4, l5⟩ := lay6_cells (a := .int .i64 k) (b := .int .i64 a) (c := .int .i64 b) (d := .int .i64 c) (e := .int .i64 d) (f := .slice none 0 0) e0 e1 e2 e3 e4 e5
            have hL := lay6_kx w3 z (.int .i64 k) (.int .i64 a) (.int .i64 b) (.int .i64 c) (.int .i64 d) (.slice none 0 0)
            generalize lay6 w3 z (.int .i64 k) (.int .i64 a) (.int .i64 b) (.int .i64 c) (.int .i64 d) (.slice none 0 0) = w4 at *
            simp [bodyPost, results, Try.results84, go_sem, l0, l1, l2, l3, l4, l5]
            have := node_close (s := nd1 [a, b, c, d]) HZ.out hpz HR3.out HK3.out HT3.out hL (by rw [rNode1 H6.out HKE.out, HF1.out]; rfl) (UO.none w3)
            rw [HKE.out]; exact this
        · simp [bodyPost]
          exact .inr ⟨by rw [rNode1 H6.out HKE.out, f1]; rfl, rfl, HKb.out.next f3.kx (fun i e => by rcases e with e | ⟨t, ht, e⟩; exact .inl e; exact .inr (by have := HZ.out; simp at ht; rcases ht with rfl | rfl | rfl | rfl <;> (simp at e; omega)))⟩
      · by_cases hk2 : k = 2
        · have t0 : (k == 0) = false := by rw [beq_eq_false_iff_ne]; exact hk0
          have t1 : (k == 1) = false := by rw [beq_eq_false_iff_ne]; exact hk1
          have t : (k == 2) = true := by rw [beq_iff_eq]; exact hk2
          have HKE := Lib.hid hk2
          clear hk0 hk1 hk2
          obtain ⟨wb, hwb⟩ : ∃ wb, w2.alloc (.cells #[.pointer (some ⟨z, 2, none⟩), .pointer (some ⟨z, 4, none⟩)] 106) = wb := ⟨_, rfl⟩
          have hBb : Below w2.heap.size w2 wb := by rw [← hwb]; exact nxa (Below.refl _ _) _
          have b2 := (KX.of (X := fun _ => False) hBb).cell c2 (fun e => e)
          have b4 := (KX.of (X := fun _ => False) hBb).cell c4 (fun e => e)
          have hzlt : z < w2.heap.size := World.block_lt_of_cell? _ _ c0
          have bz : ∀ j, wb.frozen? ⟨z, j, none⟩ = false := fun j => (KX.of (X := fun _ => False) hBb).frz (HZF.out j) (fun e => e) hzlt
          have hRb : RD (plus X w) wb p r := HR.out.kx (Y := fun _ => False) (KX.of hBb) (fun _ e _ => e.elim) (fun e => e)
          have HC2 := Lib.hid (rints_ok p (plus X w) r (some ⟨w2.heap.size, 0, none⟩) 2 2 [⟨z, 2, none⟩, ⟨z, 4, none⟩] wb hRb (.inl HX.out) (by rw [← hwb]; exact SlX.row _ rfl rfl (by omega) (by simp; omega))
            (fun t ht => by
              simp at ht
              rcases ht with rfl | rfl
              · exact ⟨.inr (by show _ ≤ z; have := HZ.out; omega), by show z ≠ p; omega, ⟨0, b2⟩, bz 2⟩
              · exact ⟨.inr (by show _ ≤ z; have := HZ.out; omega), by show z ≠ p; omega, ⟨0, b4⟩, bz 4⟩) (Lib.hid (by simp)))
          have b0 := (KX.of (X := fun _ => False) hBb).cell c0 (fun e => e)
          have b1 := (KX.of (X := fun _ => False) hBb).cell c1 (fun e => e)
          have b3 := (KX.of (X := fun _ => False) hBb).cell c3 (fun e => e)
          have b5 := (KX.of (X := fun _ => False) hBb).cell c5 (fun e => e)
          have HBZ := Lib.hid bz; have HWB := Lib.hid hwb
          have HTb : Hid (IsT wb z 67) := Lib.hid (HT.out.kx (KX.of (X := fun _ => False) hBb) (fun e => e))
          have HKb : Hid (KX (· = p) w wb) := Lib.hid (HKX.out.trans (KX.of hBb))
          have HRL := Lib.hid (rI_less H6.out).1
          clear hRb bz hBb hwb b2 b4
          go_wp2_with fail
          rw [HWB.out]
          clear c0 c1 c2 c3 c4 c5 z0 z1 z2 z3 z4 z5
          refine HC2.out.mono ?_
          rintro e w3 (⟨ns, r3, f1, rfl, f3, f4, f5⟩ | ⟨f1, rfl, f3⟩)
          · have hnl := (rIs_less f1).2
            match ns, hnl with
            | [a, b], _ =>
              have e2 := f5 0 _ a rfl rfl
              have e4 := f5 1 _ b rfl rfl
              have e0 := (f4.cell ⟨z, 0, none⟩ (by show z ≠ p; omega) (by simp)).trans b0
              have e1 := (f4.cell ⟨z, 1, none⟩ (by show z ≠ p; omega) (by simp)).trans b1
              have e3 := (f4.cell ⟨z, 3, none⟩ (by show z ≠ p; omega) (by simp)).trans b3
              have e5 := (f4.cell ⟨z, 5, none⟩ (by show z ≠ p; omega) (by simp)).trans b5
              have zf : ∀ j, w3.frozen? ⟨z, j, none⟩ = false := fun j => (f4.frz _).trans (HBZ.out j)
              have HT3 : Hid (IsT w3 z 67) := Lib.hid (f4.typ _ _ HTb.out)
              have HK3 : Hid (KX (· = p) w w3) := Lib.hid (HKb.out.next f4.kx (fun i e => by rcases e with e | ⟨t, ht, e⟩; exact .inl e; exact .inr (by have := HZ.out; simp at ht; rcases ht with rfl | rfl <;> (simp at e; omega))))
              have HC3 := Lib.hid (rlist_ok p (plus X w) r3 w3 f3 (.inl HX.out) (Lib.hid (by have := hlen.out; have := HRL.out; have := (rIs_less f1).1; omega)))
              have HR3 := Lib.hid f3; have HF1 := Lib.hid f1; have HZ3 := Lib.hid zf
              have hzlt3 : z < w3.heap.size := World.block_lt_of_cell? _ _ e0
              clear f1 f3 f4 f5 zf b0 b1 b3 b5
              go_wp2_with fail
              refine HC3.out.mono ?_
              rintro e w4 (⟨un, r4, v, h1, rfl, ⟨B, d, rfl, hU⟩, h4, h5⟩ | ⟨h1, rfl, h3⟩)
              · have g0 := h5.cell e0 (by show z ≠ p; omega)
                have g1 := h5.cell e1 (by show z ≠ p; omega)
                have g2 := h5.cell e2 (by show z ≠ p; omega)
                have g3 := h5.cell e3 (by show z ≠ p; omega)
                have g4 := h5.cell e4 (by show z ≠ p; omega)
                have g5 := h5.cell e5 (by show z ≠ p; omega)
                have zf : ∀ j, w4.frozen? ⟨z, j, none⟩ = false := fun j => h5.frz (HZ3.out j) (by show z ≠ p; omega) hzlt3
                have z0 := zf 0; have z1 := zf 1; have z2 := zf 2; have z3 := zf 3; have z4 := zf 4; have z5 := zf 5
                have HT4 : Hid (IsT w4 z 67) := Lib.hid (HT3.out.kx h5 (by omega))
                have HK4 : Hid (KX (· = p) w w4) := Lib.hid (HK3.out.trans h5)
                have HR4 := Lib.hid h4; have HF2 := Lib.hid h1; have HU := Lib.hid hU
                clear h1 h4 h5 hU zf e0 e1 e2 e3 e4 e5
                go_wp2_with fail
                obtain ⟨w5, hw5⟩ : ∃ w5, w4.setCell ⟨z, 5, none⟩ (.slice B un.length d) = w5 := ⟨_, rfl⟩
                have hK5 : KX (· = z) w4 w5 := by rw [← hw5]; exact (KX.refl (· = z) w4).set ⟨z, 5, none⟩ _ (.inl rfl)
                have e0 : w5.cell? ⟨z, 0, none⟩ = some (.int .i64 k) := by rw [← hw5, World.cell?_setCell_other _ _ _ _ (by simp)]; exact g0
                have e1 : w5.cell? ⟨z, 1, none⟩ = some (.int .i64 0) := by rw [← hw5, World.cell?_setCell_other _ _ _ _ (by simp)]; exact g1
                have e2 : w5.cell? ⟨z, 2, none⟩ = some (.int .i64 a) := by rw [← hw5, World.cell?_setCell_other _ _ _ _ (by simp)]; exact g2
                have e3 : w5.cell? ⟨z, 3, none⟩ = some (.int .i64 0) := by rw [← hw5, World.cell?_setCell_other _ _ _ _ (by simp)]; exact g3
                have e4 : w5.cell? ⟨z, 4, none⟩ = some (.int .i64 b) := by rw [← hw5, World.cell?_setCell_other _ _ _ _ (by simp)]; exact g4
                have e5 : w5.cell? ⟨z, 5, none⟩ = some (.slice B un.length d) := by rw [← hw5]; exact World.cell?_setCell_same _ _ _ g5
                have hT5 : IsT w5 z 67 := by rw [← hw5]; exact HT4.out.set _ _
                have hU5 : UO w5 B un.length d un := HU.out.k3 (K3.kx hK5 (fun b e => ⟨67, by decide, by subst e; exact HT4.out⟩))
                have hR5 : RD (plus X w) w5 p r4 := HR4.out.kx hK5 (fun i e _ => .inr (by have := HZ.out; omega)) (by omega)
                have hKx5 : KX (· = p) w w5 := HK4.out.next hK5 (fun i e => .inr (by have := HZ.out; omega))
                refine (show bodyPost Try.prog Try.f84 (REnd (rNode l) NV X p w) Exit.ret _ (lay6 (w4.setCell ⟨z, 5, none⟩ (.slice B un.length d)) z (.int .i64 k) (.int .i64 0) (.int .i64 a) (.int .i64 0) (.int .i64 b) (.slice B un.length d)) from ?_)
                rw [hw5]
                obtain ⟨l0, l1, l2, l3, l4, l5⟩ := lay6_cells (a := .int .i64 k) (b := .int .i64 0) (c := .int .i64 a) (d := .int .i64 0) (e := .int .i64 b) (f := .slice B un.length d) e0 e1 e2 e3 e4 e5
                have hL := lay6_kx w5 z (.int .i64 k) (.int .i64 0) (.int .i64 a) (.int .i64 0) (.int .i64 b) (.slice B un.length d)
                generalize lay6 w5 z (.int .i64 k) (.int .i64 0) (.int .i64 a) (.int .i64 0) (.int .i64 b) (.slice B un.length d) = w6 at *
                simp [bodyPost, results, Try.results84, go_sem, l0, l1, l2, l3, l4, l5]
                have := node_close (s := nd2 [a, b] un) HZ.out hpz hR5 hKx5 hT5 hL (by rw [rNode2 H6.out HKE.out, HF1.out, Option.bind_some]; dsimp only; rw [HF2.out]; rfl) hU5
                rw [HKE.out]; exact this
              · simp [bodyPost]
                exact .inr ⟨by rw [rNode2 H6.out HKE.out, HF1.out, Option.bind_some]; dsimp only; rw [h1]; rfl, rfl, HK3.out.trans h3⟩
          · simp [bodyPost]
            exact .inr ⟨by rw [rNode2 H6.out HKE.out, f1]; rfl, rfl, HKb.out.next f3.kx (fun i e => by rcases e with e | ⟨t, ht, e⟩; exact .inl e; exact .inr (by have := HZ.out; simp at ht; rcases ht with rfl | rfl <;> (simp at e; omega)))⟩
        · have t0 : (k == 0) = false := by rw [beq_eq_false_iff_ne]; exact hk0
          have t1 : (k == 1) = false := by rw [beq_eq_false_iff_ne]; exact hk1
          have t : (k == 2) = false := by rw [beq_eq_false_iff_ne]; exact hk2
          have HN := Lib.hid (rNodeX H6.out hk0 hk1 hk2)
          clear hk0 hk1 hk2
          go_wp2_with (go_at_call 85; refine (must_no _).mono ?_; rintro e w1 ⟨rfl, rfl⟩)
          simp [bodyPost]
          exact .inr ⟨HN.out, rfl, HKX.out⟩
  · simp [bodyPost]
    exact .inr ⟨rNodeN (rIs_one1_none f1), rfl, (KX.of (X := (· = p)) HB.out).next f3.kx (fun i e => by rcases e with e | ⟨t, ht, e⟩; exact .inl e; simp at ht; subst ht; exact .inr (by have := HZ.out; simp at e; omega))⟩
end Go.Proofs.Ytjebmmmjjiomfaa
