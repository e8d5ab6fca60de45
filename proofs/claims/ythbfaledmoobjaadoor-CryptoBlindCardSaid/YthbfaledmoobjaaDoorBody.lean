/- The walk of the law's body: whatever is done, the arena stays one. -/
import Derived.Test.YthbfaledmoobjaaDoorRead2
import Derived.Test.YthbfaledmoobjaaDoorUnblind
namespace Go.Proofs.YthbfaledmoobjaaDoor
open Go.RowKit

/-- a cell of a block that is no arena's is written -/
theorem AR.set {w : World} {base b : Nat} {ns : List NN} (h : AR w base b ns) {p : Nat} {cs : Array Value} {t : TypeId} {fz : Nat × Nat} (hp : w.heap[p]? = some (.cells cs t fz)) (h3 : t ≠ 3) (h53 : t ≠ 53) (h56 : t ≠ 56) (j : Nat) (v : Value) : AR (w.setCell ⟨p, j, none⟩ v) base b ns := by
  obtain ⟨A, c, M, k, xs, F, g1, g2, g3, g4, g5, g6, g7, g8⟩ := h
  have keep : ∀ (k : Nat), k ≠ p → (w.setCell ⟨p, j, none⟩ v).heap[k]? = w.heap[k]? := fun k hk => heap_setCell_other _ _ _ _ hk
  have ne : ∀ {k : Nat} {o : Obj}, w.heap[k]? = some o → (∀ c fz, o ≠ .cells c t fz) → k ≠ p := fun {k o} hk ho e => by rw [e, hp] at hk; injection hk with hk; exact ho _ _ hk.symm
  have hb : b ≠ p := ne g2 (fun c fz e => by injection e with _ e; exact h53 e.symm)
  obtain ⟨es, clock, hM⟩ := g5.isMap
  have hMp : M ≠ p := ne hM (fun c fz e => by cases e)
  refine ⟨A, c, M, k, xs, F, g1, (keep b hb).trans g2, ?_, g4, g5.block (keep M hMp), g6, nodes_nums g7 (fun k c fz hk => (keep k (ne hk (fun c fz e => by injection e with _ e; exact h3 e.symm))).trans hk), g8⟩
  refine ⟨g3.1, ?_⟩
  rcases g3.2 with q | ⟨g, cap, cur, hv, hb2, hh, r⟩
  · exact .inl q
  · exact .inr ⟨g, cap, cur, hv, hb2, (keep g (ne hh (fun c fz e => by injection e with _ e; exact h56 e.symm))).trans hh, r⟩
theorem Af.set {B : Nat} {w w2 : World} (h : Af B w w2) {p : Nat} (hp : w.heap.size ≤ p) (hB : B ≤ p) (j : Nat) (v : Value) : Af B w (w2.setCell ⟨p, j, none⟩ v) :=
  ⟨h.below.setCell hB v, fun k o hk ho => by
    have hlt := (Array.getElem?_eq_some_iff.1 hk).1
    rw [heap_setCell_other _ _ _ _ (show k ≠ p by omega)]
    exact h.keep k o hk ho⟩
structure OpN where
  k : Int
  a : Int
  b : Int
  c : Int
  d : Int
  s : ByteArray
def OWf (o : OpN) : Prop := W64 o.k ∧ W64 o.a ∧ W64 o.b ∧ W64 o.c ∧ W64 o.d
def opV (o : OpN) : Array Value := #[.int .i64 o.k, .int .i64 o.a, .int .i64 o.b, .int .i64 o.c, .int .i64 o.d, .string o.s]
def WkP (base b : Nat) (ns : List NN) (w : World) (e : Ending) (w' : World) : Prop :=
  ∃ t er ns', e = .returned (.tuple #[.int .i64 t, .int .i64 er]) ∧ AR w' base b ns' ∧ Af base w w' ∧ Grow ns ns' 3
theorem GrP.wk {base b : Nat} {ns : List NN} {k : Nat} {w w' : World} {R : Int → Int → List NN → Prop} {e : Ending} (h : GrP base b ns k w R e w') (hk : k ≤ 3) : WkP base b ns w e w' := by
  obtain ⟨t, er, ns', he, h1, h2, h3, _⟩ := h
  exact ⟨t, er, ns', he, h1, h2, h3.mono hk⟩
theorem MkP.wk {base b : Nat} {ns : List NN} {x : NN} {w w' : World} {e : Ending} (h : MkP base b ns x w e w') : WkP base b ns w e w' := h.gr.wk (by omega)
theorem OpP.wk {base b : Nat} {ns : List NN} {x y z : Int} {w w' : World} {e : Ending} (hR : AR w base b ns) (h : OpP ns x y z w e w') : WkP base b ns w e w' := by
  obtain ⟨t, er, he, hB, _⟩ := h
  exact ⟨t, er, ns, he, hR.below hB, Af.of hB hR.base_le, Grow.refl _ _⟩
theorem UlP.wk {base b : Nat} {ns : List NN} {x y z u : Int} {w w' : World} {e : Ending} (hR : AR w base b ns) (h : UlP ns x y z u w e w') : WkP base b ns w e w' := by
  obtain ⟨t, er, he, hB, _⟩ := h
  exact ⟨t, er, ns, he, hR.below hB, Af.of hB hR.base_le, Grow.refl _ _⟩
def BdP (base b : Nat) (ns : List NN) (w : World) (e : Ending) (w' : World) : Prop := ∃ v ns', e = .returned v ∧ AR w' base b ns' ∧ Af base w w' ∧ Grow ns ns' 3
theorem body_end {base b : Nat} {ns ns2 : List NN} {w w2 : World} {p : Nat} {x y z c0 c1 c2 : Value} (hR : AR w2 base b ns2) (hA : Af base w w2) (hG : Grow ns ns2 3) (hp : w2.heap[p]? = some (.cells #[c0, c1, c2] 48 (0, 0))) (hge : w.heap.size ≤ p) (hb : base ≤ p)
    {a : Act} (hd : a.defers = []) (h4 : a.tmps[4]? = some (.pointer (some ⟨p, 0, none⟩))) :
    bodyPost Tryd.prog Tryd.f28 (BdP base b ns w) Exit.ret a (((w2.setCell ⟨p, 0, none⟩ x).setCell ⟨p, 1, none⟩ y).setCell ⟨p, 2, none⟩ z) := by
  have k1 := heap_setCell_same _ _ 0 _ _ x hp
  have k2 := heap_setCell_same _ _ 1 _ _ y k1
  have k3 := heap_setCell_same _ _ 2 _ _ z k2
  have e0 : (((w2.setCell ⟨p, 0, none⟩ x).setCell ⟨p, 1, none⟩ y).setCell ⟨p, 2, none⟩ z).cell? ⟨p, 0, none⟩ = some x := cell_of k3 0
  have e1 : (((w2.setCell ⟨p, 0, none⟩ x).setCell ⟨p, 1, none⟩ y).setCell ⟨p, 2, none⟩ z).cell? ⟨p, 1, none⟩ = some y := cell_of k3 1
  have e2 : (((w2.setCell ⟨p, 0, none⟩ x).setCell ⟨p, 1, none⟩ y).setCell ⟨p, 2, none⟩ z).cell? ⟨p, 2, none⟩ = some z := cell_of k3 2
  have hR' := ((hR.set hp (by decide) (by decide) (by decide) 0 x).set k1 (by decide) (by decide) (by decide) 1 y).set k2 (by decide) (by decide) (by decide) 2 z
  have hA' := ((hA.set hge hb 0 x).set hge hb 1 y).set hge hb 2 z
  generalize ((w2.setCell ⟨p, 0, none⟩ x).setCell ⟨p, 1, none⟩ y).setCell ⟨p, 2, none⟩ z = wf at *
  refine bodyPost_ret (v := .agg #[x, y, z]) (by simp [results, Tryd.results28, go_sem, e0, e1, e2, h4]) hd ?_
  exact ⟨_, ns2, rfl, hR', hA', hG⟩
set_option maxRecDepth 100000 in
theorem yes_ok (r : Bool) (w : World) : Calls Tryd.prog 36 #[.bool r] w fun e w' => e = .returned (.agg #[.int .i64 0, .int .i64 0, .bool r]) ∧ Below w.heap.size w w' := by
  go_enter Tryd.func36, Tryd.ntmps36
  go_wp2_with fail
  refine bodyPost_ret (v := .agg #[.int .i64 0, .int .i64 0, .bool r]) (by simp [results, Tryd.results36, go_sem]) rfl ?_
  exact ⟨rfl, (Below.refl _ w).alloc (Nat.le_refl _) _⟩
set_option maxRecDepth 100000 in
set_option maxHeartbeats 4000000 in
theorem body_0 (base b : Nat) (ns : List NN) (oa ob oc od : Int) (os : ByteArray) (w : World) (h : AR w base b ns) (ho : W64 oa ∧ W64 ob ∧ W64 oc ∧ W64 od) (hT : Tb base w) :
    Calls Tryd.prog 28 #[.pointer (some ⟨b, 0, none⟩), .agg #[.int .i64 0, .int .i64 oa, .int .i64 ob, .int .i64 oc, .int .i64 od, .string os]] w (BdP base b ns w) := by
  obtain ⟨hwa, hwb, hwc, hwd⟩ := ho
  have hb := h.base_le
  obtain ⟨W, hW⟩ : ∃ W, ((w.alloc (.cells #[.int .i64 0, .int .i64 oa, .int .i64 ob, .int .i64 oc, .int .i64 od, .string os] 46)).alloc (.cells #[.int .i64 0, .int .i64 0, .bool false] 48)) = W := ⟨_, rfl⟩
  have hB : Below w.heap.size w W := by rw [← hW]; exact ((Below.refl _ w).alloc (Nat.le_refl _) _).alloc (by simp) _
  have hp : W.heap[w.heap.size + 1]? = some (.cells #[.int .i64 0, .int .i64 0, .bool false] 48 (0, 0)) := by rw [← hW]; exact two_b _ _ _
  have hR := h.below hB
  have hT2 := hT.on (hB.mono hb)
  have HC : Hid (Calls Tryd.prog 25 #[.pointer (some ⟨b, 0, none⟩), .int .i64 oa, .int .i64 ob] W (WkP base b ns W)) := Lib.hid ((extract_ok base b ns oa ob W hR hwa hwb hT2).mono fun _ _ q => q.wk)
  have HBASE := Lib.hid hb; have HPP := Lib.hid hp; have HBB := Lib.hid hB; have HW := Lib.hid hW
  clear h hT hW hB hp hR hT2 hb hwa hwb hwc hwd
  go_enter Tryd.func28, Tryd.ntmps28
  go_wp2_with (go_at_call 25; rw [HW.out]; refine HC.out.mono ?_; rintro e w2 ⟨t, er, ns2, rfl, hR2, hA, hG⟩; refine Hid.out ?_)
  refine Lib.hid ?_
  have k2 := hA.keep _ _ HPP.out (Plain.cells (by decide) (by decide))
  have q0 : w2.cell? ⟨w.heap.size + 1, 0, none⟩ = some (.int .i64 0) := cell_of k2 0
  have q1 : w2.cell? ⟨w.heap.size + 1, 1, none⟩ = some (.int .i64 0) := cell_of k2 1
  have q2 : w2.cell? ⟨w.heap.size + 1, 2, none⟩ = some (.bool false) := cell_of k2 2
  have y0 := frz_of k2 0
  have y1 := frz_of k2 1
  have y2 := frz_of k2 2
  have HR2 := Lib.hid hR2; have HA2 := Lib.hid ((Af.of HBB.out HBASE.out).trans hA); have HG := Lib.hid hG; have HK2 := Lib.hid k2
  clear hR2 hA hG k2
  go_wp2_with fail
  exact body_end HR2.out HA2.out HG.out HK2.out (by omega) (by have := HBASE.out; omega) rfl rfl
set_option maxRecDepth 100000 in
set_option maxHeartbeats 4000000 in
theorem body_1 (base b : Nat) (ns : List NN) (oa ob oc od : Int) (os : ByteArray) (w : World) (h : AR w base b ns) (ho : W64 oa ∧ W64 ob ∧ W64 oc ∧ W64 od) (hT : Tb base w) :
    Calls Tryd.prog 28 #[.pointer (some ⟨b, 0, none⟩), .agg #[.int .i64 1, .int .i64 oa, .int .i64 ob, .int .i64 oc, .int .i64 od, .string os]] w (BdP base b ns w) := by
  obtain ⟨hwa, hwb, hwc, hwd⟩ := ho
  have hb := h.base_le
  obtain ⟨W, hW⟩ : ∃ W, ((w.alloc (.cells #[.int .i64 1, .int .i64 oa, .int .i64 ob, .int .i64 oc, .int .i64 od, .string os] 46)).alloc (.cells #[.int .i64 0, .int .i64 0, .bool false] 48)) = W := ⟨_, rfl⟩
  have hB : Below w.heap.size w W := by rw [← hW]; exact ((Below.refl _ w).alloc (Nat.le_refl _) _).alloc (by simp) _
  have hp : W.heap[w.heap.size + 1]? = some (.cells #[.int .i64 0, .int .i64 0, .bool false] 48 (0, 0)) := by rw [← hW]; exact two_b _ _ _
  have hR := h.below hB
  have hT2 := hT.on (hB.mono hb)
  have HC : Hid (Calls Tryd.prog 24 #[.pointer (some ⟨b, 0, none⟩), .int .i64 oa, .string os, .int .i64 ob] W (WkP base b ns W)) := Lib.hid ((expand_ok base b ns oa ob os W hR hwa hwb hT2).mono fun _ _ q => q.wk (by omega))
  have HBASE := Lib.hid hb; have HPP := Lib.hid hp; have HBB := Lib.hid hB; have HW := Lib.hid hW
  clear h hT hW hB hp hR hT2 hb hwa hwb hwc hwd
  go_enter Tryd.func28, Tryd.ntmps28
  go_wp2_with (go_at_call 24; rw [HW.out]; refine HC.out.mono ?_; rintro e w2 ⟨t, er, ns2, rfl, hR2, hA, hG⟩; refine Hid.out ?_)
  refine Lib.hid ?_
  have k2 := hA.keep _ _ HPP.out (Plain.cells (by decide) (by decide))
  have q0 : w2.cell? ⟨w.heap.size + 1, 0, none⟩ = some (.int .i64 0) := cell_of k2 0
  have q1 : w2.cell? ⟨w.heap.size + 1, 1, none⟩ = some (.int .i64 0) := cell_of k2 1
  have q2 : w2.cell? ⟨w.heap.size + 1, 2, none⟩ = some (.bool false) := cell_of k2 2
  have y0 := frz_of k2 0
  have y1 := frz_of k2 1
  have y2 := frz_of k2 2
  have HR2 := Lib.hid hR2; have HA2 := Lib.hid ((Af.of HBB.out HBASE.out).trans hA); have HG := Lib.hid hG; have HK2 := Lib.hid k2
  clear hR2 hA hG k2
  go_wp2_with fail
  exact body_end HR2.out HA2.out HG.out HK2.out (by omega) (by have := HBASE.out; omega) rfl rfl
set_option maxRecDepth 100000 in
set_option maxHeartbeats 4000000 in
theorem body_2 (base b : Nat) (ns : List NN) (oa ob oc od : Int) (os : ByteArray) (w : World) (h : AR w base b ns) (ho : W64 oa ∧ W64 ob ∧ W64 oc ∧ W64 od) (hT : Tb base w) :
    Calls Tryd.prog 28 #[.pointer (some ⟨b, 0, none⟩), .agg #[.int .i64 2, .int .i64 oa, .int .i64 ob, .int .i64 oc, .int .i64 od, .string os]] w (BdP base b ns w) := by
  obtain ⟨hwa, hwb, hwc, hwd⟩ := ho
  have hb := h.base_le
  obtain ⟨W, hW⟩ : ∃ W, ((w.alloc (.cells #[.int .i64 2, .int .i64 oa, .int .i64 ob, .int .i64 oc, .int .i64 od, .string os] 46)).alloc (.cells #[.int .i64 0, .int .i64 0, .bool false] 48)) = W := ⟨_, rfl⟩
  have hB : Below w.heap.size w W := by rw [← hW]; exact ((Below.refl _ w).alloc (Nat.le_refl _) _).alloc (by simp) _
  have hp : W.heap[w.heap.size + 1]? = some (.cells #[.int .i64 0, .int .i64 0, .bool false] 48 (0, 0)) := by rw [← hW]; exact two_b _ _ _
  have hR := h.below hB
  have hT2 := hT.on (hB.mono hb)
  have HC : Hid (Calls Tryd.prog 35 #[.pointer (some ⟨b, 0, none⟩), .int .i64 oa, .string os] W (WkP base b ns W)) := Lib.hid ((derive_ok base b ns oa os W hR hwa hT2).mono fun _ _ q => q.wk (by omega))
  have HBASE := Lib.hid hb; have HPP := Lib.hid hp; have HBB := Lib.hid hB; have HW := Lib.hid hW
  clear h hT hW hB hp hR hT2 hb hwa hwb hwc hwd
  go_enter Tryd.func28, Tryd.ntmps28
  go_wp2_with (go_at_call 35; rw [HW.out]; refine HC.out.mono ?_; rintro e w2 ⟨t, er, ns2, rfl, hR2, hA, hG⟩; refine Hid.out ?_)
  refine Lib.hid ?_
  have k2 := hA.keep _ _ HPP.out (Plain.cells (by decide) (by decide))
  have q0 : w2.cell? ⟨w.heap.size + 1, 0, none⟩ = some (.int .i64 0) := cell_of k2 0
  have q1 : w2.cell? ⟨w.heap.size + 1, 1, none⟩ = some (.int .i64 0) := cell_of k2 1
  have q2 : w2.cell? ⟨w.heap.size + 1, 2, none⟩ = some (.bool false) := cell_of k2 2
  have y0 := frz_of k2 0
  have y1 := frz_of k2 1
  have y2 := frz_of k2 2
  have HR2 := Lib.hid hR2; have HA2 := Lib.hid ((Af.of HBB.out HBASE.out).trans hA); have HG := Lib.hid hG; have HK2 := Lib.hid k2
  clear hR2 hA hG k2
  go_wp2_with fail
  exact body_end HR2.out HA2.out HG.out HK2.out (by omega) (by have := HBASE.out; omega) rfl rfl
set_option maxRecDepth 100000 in
set_option maxHeartbeats 4000000 in
theorem body_3 (base b : Nat) (ns : List NN) (oa ob oc od : Int) (os : ByteArray) (w : World) (h : AR w base b ns) (ho : W64 oa ∧ W64 ob ∧ W64 oc ∧ W64 od) (hT : Tb base w) :
    Calls Tryd.prog 28 #[.pointer (some ⟨b, 0, none⟩), .agg #[.int .i64 3, .int .i64 oa, .int .i64 ob, .int .i64 oc, .int .i64 od, .string os]] w (BdP base b ns w) := by
  obtain ⟨hwa, hwb, hwc, hwd⟩ := ho
  have hb := h.base_le
  obtain ⟨W, hW⟩ : ∃ W, ((w.alloc (.cells #[.int .i64 3, .int .i64 oa, .int .i64 ob, .int .i64 oc, .int .i64 od, .string os] 46)).alloc (.cells #[.int .i64 0, .int .i64 0, .bool false] 48)) = W := ⟨_, rfl⟩
  have hB : Below w.heap.size w W := by rw [← hW]; exact ((Below.refl _ w).alloc (Nat.le_refl _) _).alloc (by simp) _
  have hp : W.heap[w.heap.size + 1]? = some (.cells #[.int .i64 0, .int .i64 0, .bool false] 48 (0, 0)) := by rw [← hW]; exact two_b _ _ _
  have hR := h.below hB
  have hT2 := hT.on (hB.mono hb)
  have HC : Hid (Calls Tryd.prog 19 #[.pointer (some ⟨b, 0, none⟩), .int .i64 oa] W (WkP base b ns W)) := Lib.hid ((public_ok base b ns oa W hR hwa hT2).mono fun _ _ q => q.wk)
  have HBASE := Lib.hid hb; have HPP := Lib.hid hp; have HBB := Lib.hid hB; have HW := Lib.hid hW
  clear h hT hW hB hp hR hT2 hb hwa hwb hwc hwd
  go_enter Tryd.func28, Tryd.ntmps28
  go_wp2_with (go_at_call 19; rw [HW.out]; refine HC.out.mono ?_; rintro e w2 ⟨t, er, ns2, rfl, hR2, hA, hG⟩; refine Hid.out ?_)
  refine Lib.hid ?_
  have k2 := hA.keep _ _ HPP.out (Plain.cells (by decide) (by decide))
  have q0 : w2.cell? ⟨w.heap.size + 1, 0, none⟩ = some (.int .i64 0) := cell_of k2 0
  have q1 : w2.cell? ⟨w.heap.size + 1, 1, none⟩ = some (.int .i64 0) := cell_of k2 1
  have q2 : w2.cell? ⟨w.heap.size + 1, 2, none⟩ = some (.bool false) := cell_of k2 2
  have y0 := frz_of k2 0
  have y1 := frz_of k2 1
  have y2 := frz_of k2 2
  have HR2 := Lib.hid hR2; have HA2 := Lib.hid ((Af.of HBB.out HBASE.out).trans hA); have HG := Lib.hid hG; have HK2 := Lib.hid k2
  clear hR2 hA hG k2
  go_wp2_with fail
  exact body_end HR2.out HA2.out HG.out HK2.out (by omega) (by have := HBASE.out; omega) rfl rfl
set_option maxRecDepth 100000 in
set_option maxHeartbeats 4000000 in
theorem body_4 (base b : Nat) (ns : List NN) (oa ob oc od : Int) (os : ByteArray) (w : World) (h : AR w base b ns) (ho : W64 oa ∧ W64 ob ∧ W64 oc ∧ W64 od) (hT : Tb base w) :
    Calls Tryd.prog 28 #[.pointer (some ⟨b, 0, none⟩), .agg #[.int .i64 4, .int .i64 oa, .int .i64 ob, .int .i64 oc, .int .i64 od, .string os]] w (BdP base b ns w) := by
  obtain ⟨hwa, hwb, hwc, hwd⟩ := ho
  have hb := h.base_le
  obtain ⟨W, hW⟩ : ∃ W, ((w.alloc (.cells #[.int .i64 4, .int .i64 oa, .int .i64 ob, .int .i64 oc, .int .i64 od, .string os] 46)).alloc (.cells #[.int .i64 0, .int .i64 0, .bool false] 48)) = W := ⟨_, rfl⟩
  have hB : Below w.heap.size w W := by rw [← hW]; exact ((Below.refl _ w).alloc (Nat.le_refl _) _).alloc (by simp) _
  have hp : W.heap[w.heap.size + 1]? = some (.cells #[.int .i64 0, .int .i64 0, .bool false] 48 (0, 0)) := by rw [← hW]; exact two_b _ _ _
  have hR := h.below hB
  have hT2 := hT.on (hB.mono hb)
  have HC : Hid (Calls Tryd.prog 21 #[.pointer (some ⟨b, 0, none⟩), .int .i64 oa, .int .i64 ob, .int .i64 oc, .int .i64 od] W (WkP base b ns W)) := Lib.hid ((seal_ok base b ns oa ob oc od W hR hwa hwb hwc hwd hT2).mono fun _ _ q => q.wk (by omega))
  have HBASE := Lib.hid hb; have HPP := Lib.hid hp; have HBB := Lib.hid hB; have HW := Lib.hid hW
  clear h hT hW hB hp hR hT2 hb hwa hwb hwc hwd
  go_enter Tryd.func28, Tryd.ntmps28
  go_wp2_with (go_at_call 21; rw [HW.out]; refine HC.out.mono ?_; rintro e w2 ⟨t, er, ns2, rfl, hR2, hA, hG⟩; refine Hid.out ?_)
  refine Lib.hid ?_
  have k2 := hA.keep _ _ HPP.out (Plain.cells (by decide) (by decide))
  have q0 : w2.cell? ⟨w.heap.size + 1, 0, none⟩ = some (.int .i64 0) := cell_of k2 0
  have q1 : w2.cell? ⟨w.heap.size + 1, 1, none⟩ = some (.int .i64 0) := cell_of k2 1
  have q2 : w2.cell? ⟨w.heap.size + 1, 2, none⟩ = some (.bool false) := cell_of k2 2
  have y0 := frz_of k2 0
  have y1 := frz_of k2 1
  have y2 := frz_of k2 2
  have HR2 := Lib.hid hR2; have HA2 := Lib.hid ((Af.of HBB.out HBASE.out).trans hA); have HG := Lib.hid hG; have HK2 := Lib.hid k2
  clear hR2 hA hG k2
  go_wp2_with fail
  exact body_end HR2.out HA2.out HG.out HK2.out (by omega) (by have := HBASE.out; omega) rfl rfl
set_option maxRecDepth 100000 in
set_option maxHeartbeats 4000000 in
theorem body_5 (base b : Nat) (ns : List NN) (oa ob oc od : Int) (os : ByteArray) (w : World) (h : AR w base b ns) (ho : W64 oa ∧ W64 ob ∧ W64 oc ∧ W64 od) (hT : Tb base w) :
    Calls Tryd.prog 28 #[.pointer (some ⟨b, 0, none⟩), .agg #[.int .i64 5, .int .i64 oa, .int .i64 ob, .int .i64 oc, .int .i64 od, .string os]] w (BdP base b ns w) := by
  obtain ⟨hwa, hwb, hwc, hwd⟩ := ho
  have hb := h.base_le
  obtain ⟨W, hW⟩ : ∃ W, ((w.alloc (.cells #[.int .i64 5, .int .i64 oa, .int .i64 ob, .int .i64 oc, .int .i64 od, .string os] 46)).alloc (.cells #[.int .i64 0, .int .i64 0, .bool false] 48)) = W := ⟨_, rfl⟩
  have hB : Below w.heap.size w W := by rw [← hW]; exact ((Below.refl _ w).alloc (Nat.le_refl _) _).alloc (by simp) _
  have hp : W.heap[w.heap.size + 1]? = some (.cells #[.int .i64 0, .int .i64 0, .bool false] 48 (0, 0)) := by rw [← hW]; exact two_b _ _ _
  have hR := h.below hB
  have hT2 := hT.on (hB.mono hb)
  have HC : Hid (Calls Tryd.prog 12 #[.pointer (some ⟨b, 0, none⟩), .int .i64 oa, .int .i64 ob, .int .i64 oc] W (WkP base b ns W)) := Lib.hid ((open_ok base b ns oa ob oc W hR).mono fun _ _ q => q.wk hR)
  have HBASE := Lib.hid hb; have HPP := Lib.hid hp; have HBB := Lib.hid hB; have HW := Lib.hid hW
  clear h hT hW hB hp hR hT2 hb hwa hwb hwc hwd
  go_enter Tryd.func28, Tryd.ntmps28
  go_wp2_with (go_at_call 12; rw [HW.out]; refine HC.out.mono ?_; rintro e w2 ⟨t, er, ns2, rfl, hR2, hA, hG⟩; refine Hid.out ?_)
  refine Lib.hid ?_
  have k2 := hA.keep _ _ HPP.out (Plain.cells (by decide) (by decide))
  have q0 : w2.cell? ⟨w.heap.size + 1, 0, none⟩ = some (.int .i64 0) := cell_of k2 0
  have q1 : w2.cell? ⟨w.heap.size + 1, 1, none⟩ = some (.int .i64 0) := cell_of k2 1
  have q2 : w2.cell? ⟨w.heap.size + 1, 2, none⟩ = some (.bool false) := cell_of k2 2
  have y0 := frz_of k2 0
  have y1 := frz_of k2 1
  have y2 := frz_of k2 2
  have HR2 := Lib.hid hR2; have HA2 := Lib.hid ((Af.of HBB.out HBASE.out).trans hA); have HG := Lib.hid hG; have HK2 := Lib.hid k2
  clear hR2 hA hG k2
  go_wp2_with fail
  exact body_end HR2.out HA2.out HG.out HK2.out (by omega) (by have := HBASE.out; omega) rfl rfl
set_option maxRecDepth 100000 in
set_option maxHeartbeats 4000000 in
theorem body_6 (base b : Nat) (ns : List NN) (oa ob oc od : Int) (os : ByteArray) (w : World) (h : AR w base b ns) (ho : W64 oa ∧ W64 ob ∧ W64 oc ∧ W64 od) (hT : Tb base w) :
    Calls Tryd.prog 28 #[.pointer (some ⟨b, 0, none⟩), .agg #[.int .i64 6, .int .i64 oa, .int .i64 ob, .int .i64 oc, .int .i64 od, .string os]] w (BdP base b ns w) := by
  obtain ⟨hwa, hwb, hwc, hwd⟩ := ho
  have hb := h.base_le
  obtain ⟨W, hW⟩ : ∃ W, ((w.alloc (.cells #[.int .i64 6, .int .i64 oa, .int .i64 ob, .int .i64 oc, .int .i64 od, .string os] 46)).alloc (.cells #[.int .i64 0, .int .i64 0, .bool false] 48)) = W := ⟨_, rfl⟩
  have hB : Below w.heap.size w W := by rw [← hW]; exact ((Below.refl _ w).alloc (Nat.le_refl _) _).alloc (by simp) _
  have hp : W.heap[w.heap.size + 1]? = some (.cells #[.int .i64 0, .int .i64 0, .bool false] 48 (0, 0)) := by rw [← hW]; exact two_b _ _ _
  have hR := h.below hB
  have hT2 := hT.on (hB.mono hb)
  have HC : Hid (Calls Tryd.prog 22 #[.pointer (some ⟨b, 0, none⟩), .int .i64 oa, .int .i64 ob, .int .i64 oc, .int .i64 od] W (WkP base b ns W)) := Lib.hid ((lock_ok base b ns oa ob oc od W hR hwa hwb hwc hwd hT2).mono fun _ _ q => q.wk)
  have HBASE := Lib.hid hb; have HPP := Lib.hid hp; have HBB := Lib.hid hB; have HW := Lib.hid hW
  clear h hT hW hB hp hR hT2 hb hwa hwb hwc hwd
  go_enter Tryd.func28, Tryd.ntmps28
  go_wp2_with (go_at_call 22; rw [HW.out]; refine HC.out.mono ?_; rintro e w2 ⟨t, er, ns2, rfl, hR2, hA, hG⟩; refine Hid.out ?_)
  refine Lib.hid ?_
  have k2 := hA.keep _ _ HPP.out (Plain.cells (by decide) (by decide))
  have q0 : w2.cell? ⟨w.heap.size + 1, 0, none⟩ = some (.int .i64 0) := cell_of k2 0
  have q1 : w2.cell? ⟨w.heap.size + 1, 1, none⟩ = some (.int .i64 0) := cell_of k2 1
  have q2 : w2.cell? ⟨w.heap.size + 1, 2, none⟩ = some (.bool false) := cell_of k2 2
  have y0 := frz_of k2 0
  have y1 := frz_of k2 1
  have y2 := frz_of k2 2
  have HR2 := Lib.hid hR2; have HA2 := Lib.hid ((Af.of HBB.out HBASE.out).trans hA); have HG := Lib.hid hG; have HK2 := Lib.hid k2
  clear hR2 hA hG k2
  go_wp2_with fail
  exact body_end HR2.out HA2.out HG.out HK2.out (by omega) (by have := HBASE.out; omega) rfl rfl
set_option maxRecDepth 100000 in
set_option maxHeartbeats 4000000 in
theorem body_7 (base b : Nat) (ns : List NN) (oa ob oc od : Int) (os : ByteArray) (w : World) (h : AR w base b ns) (ho : W64 oa ∧ W64 ob ∧ W64 oc ∧ W64 od) (hT : Tb base w) :
    Calls Tryd.prog 28 #[.pointer (some ⟨b, 0, none⟩), .agg #[.int .i64 7, .int .i64 oa, .int .i64 ob, .int .i64 oc, .int .i64 od, .string os]] w (BdP base b ns w) := by
  obtain ⟨hwa, hwb, hwc, hwd⟩ := ho
  have hb := h.base_le
  obtain ⟨W, hW⟩ : ∃ W, ((w.alloc (.cells #[.int .i64 7, .int .i64 oa, .int .i64 ob, .int .i64 oc, .int .i64 od, .string os] 46)).alloc (.cells #[.int .i64 0, .int .i64 0, .bool false] 48)) = W := ⟨_, rfl⟩
  have hB : Below w.heap.size w W := by rw [← hW]; exact ((Below.refl _ w).alloc (Nat.le_refl _) _).alloc (by simp) _
  have hp : W.heap[w.heap.size + 1]? = some (.cells #[.int .i64 0, .int .i64 0, .bool false] 48 (0, 0)) := by rw [← hW]; exact two_b _ _ _
  have hR := h.below hB
  have hT2 := hT.on (hB.mono hb)
  have HC : Hid (Calls Tryd.prog 13 #[.pointer (some ⟨b, 0, none⟩), .int .i64 oa, .int .i64 ob, .int .i64 oc, .int .i64 od] W (WkP base b ns W)) := Lib.hid ((unlock_ok base b ns oa ob oc od W hR).mono fun _ _ q => q.wk hR)
  have HBASE := Lib.hid hb; have HPP := Lib.hid hp; have HBB := Lib.hid hB; have HW := Lib.hid hW
  clear h hT hW hB hp hR hT2 hb hwa hwb hwc hwd
  go_enter Tryd.func28, Tryd.ntmps28
  go_wp2_with (go_at_call 13; rw [HW.out]; refine HC.out.mono ?_; rintro e w2 ⟨t, er, ns2, rfl, hR2, hA, hG⟩; refine Hid.out ?_)
  refine Lib.hid ?_
  have k2 := hA.keep _ _ HPP.out (Plain.cells (by decide) (by decide))
  have q0 : w2.cell? ⟨w.heap.size + 1, 0, none⟩ = some (.int .i64 0) := cell_of k2 0
  have q1 : w2.cell? ⟨w.heap.size + 1, 1, none⟩ = some (.int .i64 0) := cell_of k2 1
  have q2 : w2.cell? ⟨w.heap.size + 1, 2, none⟩ = some (.bool false) := cell_of k2 2
  have y0 := frz_of k2 0
  have y1 := frz_of k2 1
  have y2 := frz_of k2 2
  have HR2 := Lib.hid hR2; have HA2 := Lib.hid ((Af.of HBB.out HBASE.out).trans hA); have HG := Lib.hid hG; have HK2 := Lib.hid k2
  clear hR2 hA hG k2
  go_wp2_with fail
  exact body_end HR2.out HA2.out HG.out HK2.out (by omega) (by have := HBASE.out; omega) rfl rfl
set_option maxRecDepth 100000 in
set_option maxHeartbeats 4000000 in
theorem body_8 (base b : Nat) (ns : List NN) (oa ob oc od : Int) (os : ByteArray) (w : World) (h : AR w base b ns) (ho : W64 oa ∧ W64 ob ∧ W64 oc ∧ W64 od) (hT : Tb base w) :
    Calls Tryd.prog 28 #[.pointer (some ⟨b, 0, none⟩), .agg #[.int .i64 8, .int .i64 oa, .int .i64 ob, .int .i64 oc, .int .i64 od, .string os]] w (BdP base b ns w) := by
  obtain ⟨hwa, hwb, hwc, hwd⟩ := ho
  have hb := h.base_le
  obtain ⟨W, hW⟩ : ∃ W, ((w.alloc (.cells #[.int .i64 8, .int .i64 oa, .int .i64 ob, .int .i64 oc, .int .i64 od, .string os] 46)).alloc (.cells #[.int .i64 0, .int .i64 0, .bool false] 48)) = W := ⟨_, rfl⟩
  have hB : Below w.heap.size w W := by rw [← hW]; exact ((Below.refl _ w).alloc (Nat.le_refl _) _).alloc (by simp) _
  have hp : W.heap[w.heap.size + 1]? = some (.cells #[.int .i64 0, .int .i64 0, .bool false] 48 (0, 0)) := by rw [← hW]; exact two_b _ _ _
  have hR := h.below hB
  have hT2 := hT.on (hB.mono hb)
  have HC : Hid (Calls Tryd.prog 17 #[.pointer (some ⟨b, 0, none⟩), .int .i64 oa, .int .i64 ob] W (WkP base b ns W)) := Lib.hid ((sign_ok base b ns oa ob W hR hwa hwb hT2).mono fun _ _ q => q.wk)
  have HBASE := Lib.hid hb; have HPP := Lib.hid hp; have HBB := Lib.hid hB; have HW := Lib.hid hW
  clear h hT hW hB hp hR hT2 hb hwa hwb hwc hwd
  go_enter Tryd.func28, Tryd.ntmps28
  go_wp2_with (go_at_call 17; rw [HW.out]; refine HC.out.mono ?_; rintro e w2 ⟨t, er, ns2, rfl, hR2, hA, hG⟩; refine Hid.out ?_)
  refine Lib.hid ?_
  have k2 := hA.keep _ _ HPP.out (Plain.cells (by decide) (by decide))
  have q0 : w2.cell? ⟨w.heap.size + 1, 0, none⟩ = some (.int .i64 0) := cell_of k2 0
  have q1 : w2.cell? ⟨w.heap.size + 1, 1, none⟩ = some (.int .i64 0) := cell_of k2 1
  have q2 : w2.cell? ⟨w.heap.size + 1, 2, none⟩ = some (.bool false) := cell_of k2 2
  have y0 := frz_of k2 0
  have y1 := frz_of k2 1
  have y2 := frz_of k2 2
  have HR2 := Lib.hid hR2; have HA2 := Lib.hid ((Af.of HBB.out HBASE.out).trans hA); have HG := Lib.hid hG; have HK2 := Lib.hid k2
  clear hR2 hA hG k2
  go_wp2_with fail
  exact body_end HR2.out HA2.out HG.out HK2.out (by omega) (by have := HBASE.out; omega) rfl rfl
set_option maxRecDepth 100000 in
set_option maxHeartbeats 4000000 in
theorem body_10 (base b : Nat) (ns : List NN) (oa ob oc od : Int) (os : ByteArray) (w : World) (h : AR w base b ns) (ho : W64 oa ∧ W64 ob ∧ W64 oc ∧ W64 od) (hT : Tb base w) :
    Calls Tryd.prog 28 #[.pointer (some ⟨b, 0, none⟩), .agg #[.int .i64 10, .int .i64 oa, .int .i64 ob, .int .i64 oc, .int .i64 od, .string os]] w (BdP base b ns w) := by
  obtain ⟨hwa, hwb, hwc, hwd⟩ := ho
  have hb := h.base_le
  obtain ⟨W, hW⟩ : ∃ W, ((w.alloc (.cells #[.int .i64 10, .int .i64 oa, .int .i64 ob, .int .i64 oc, .int .i64 od, .string os] 46)).alloc (.cells #[.int .i64 0, .int .i64 0, .bool false] 48)) = W := ⟨_, rfl⟩
  have hB : Below w.heap.size w W := by rw [← hW]; exact ((Below.refl _ w).alloc (Nat.le_refl _) _).alloc (by simp) _
  have hp : W.heap[w.heap.size + 1]? = some (.cells #[.int .i64 0, .int .i64 0, .bool false] 48 (0, 0)) := by rw [← hW]; exact two_b _ _ _
  have hR := h.below hB
  have hT2 := hT.on (hB.mono hb)
  have HC : Hid (Calls Tryd.prog 23 #[.pointer (some ⟨b, 0, none⟩), .int .i64 oa, .int .i64 ob] W (WkP base b ns W)) := Lib.hid ((tag_ok base b ns oa ob W hR hwa hwb hT2).mono fun _ _ q => q.wk)
  have HBASE := Lib.hid hb; have HPP := Lib.hid hp; have HBB := Lib.hid hB; have HW := Lib.hid hW
  clear h hT hW hB hp hR hT2 hb hwa hwb hwc hwd
  go_enter Tryd.func28, Tryd.ntmps28
  go_wp2_with (go_at_call 23; rw [HW.out]; refine HC.out.mono ?_; rintro e w2 ⟨t, er, ns2, rfl, hR2, hA, hG⟩; refine Hid.out ?_)
  refine Lib.hid ?_
  have k2 := hA.keep _ _ HPP.out (Plain.cells (by decide) (by decide))
  have q0 : w2.cell? ⟨w.heap.size + 1, 0, none⟩ = some (.int .i64 0) := cell_of k2 0
  have q1 : w2.cell? ⟨w.heap.size + 1, 1, none⟩ = some (.int .i64 0) := cell_of k2 1
  have q2 : w2.cell? ⟨w.heap.size + 1, 2, none⟩ = some (.bool false) := cell_of k2 2
  have y0 := frz_of k2 0
  have y1 := frz_of k2 1
  have y2 := frz_of k2 2
  have HR2 := Lib.hid hR2; have HA2 := Lib.hid ((Af.of HBB.out HBASE.out).trans hA); have HG := Lib.hid hG; have HK2 := Lib.hid k2
  clear hR2 hA hG k2
  go_wp2_with fail
  exact body_end HR2.out HA2.out HG.out HK2.out (by omega) (by have := HBASE.out; omega) rfl rfl
set_option maxRecDepth 100000 in
set_option maxHeartbeats 4000000 in
theorem body_12 (base b : Nat) (ns : List NN) (oa ob oc od : Int) (os : ByteArray) (w : World) (h : AR w base b ns) (ho : W64 oa ∧ W64 ob ∧ W64 oc ∧ W64 od) (hT : Tb base w) :
    Calls Tryd.prog 28 #[.pointer (some ⟨b, 0, none⟩), .agg #[.int .i64 12, .int .i64 oa, .int .i64 ob, .int .i64 oc, .int .i64 od, .string os]] w (BdP base b ns w) := by
  obtain ⟨hwa, hwb, hwc, hwd⟩ := ho
  have hb := h.base_le
  obtain ⟨W, hW⟩ : ∃ W, ((w.alloc (.cells #[.int .i64 12, .int .i64 oa, .int .i64 ob, .int .i64 oc, .int .i64 od, .string os] 46)).alloc (.cells #[.int .i64 0, .int .i64 0, .bool false] 48)) = W := ⟨_, rfl⟩
  have hB : Below w.heap.size w W := by rw [← hW]; exact ((Below.refl _ w).alloc (Nat.le_refl _) _).alloc (by simp) _
  have hp : W.heap[w.heap.size + 1]? = some (.cells #[.int .i64 0, .int .i64 0, .bool false] 48 (0, 0)) := by rw [← hW]; exact two_b _ _ _
  have hR := h.below hB
  have hT2 := hT.on (hB.mono hb)
  have HC : Hid (Calls Tryd.prog 16 #[.pointer (some ⟨b, 0, none⟩), .int .i64 oa, .int .i64 ob] W (WkP base b ns W)) := Lib.hid ((blind_ok base b ns oa ob W hR hwa hwb hT2).mono fun _ _ q => q.wk)
  have HBASE := Lib.hid hb; have HPP := Lib.hid hp; have HBB := Lib.hid hB; have HW := Lib.hid hW
  clear h hT hW hB hp hR hT2 hb hwa hwb hwc hwd
  go_enter Tryd.func28, Tryd.ntmps28
  go_wp2_with (go_at_call 16; rw [HW.out]; refine HC.out.mono ?_; rintro e w2 ⟨t, er, ns2, rfl, hR2, hA, hG⟩; refine Hid.out ?_)
  refine Lib.hid ?_
  have k2 := hA.keep _ _ HPP.out (Plain.cells (by decide) (by decide))
  have q0 : w2.cell? ⟨w.heap.size + 1, 0, none⟩ = some (.int .i64 0) := cell_of k2 0
  have q1 : w2.cell? ⟨w.heap.size + 1, 1, none⟩ = some (.int .i64 0) := cell_of k2 1
  have q2 : w2.cell? ⟨w.heap.size + 1, 2, none⟩ = some (.bool false) := cell_of k2 2
  have y0 := frz_of k2 0
  have y1 := frz_of k2 1
  have y2 := frz_of k2 2
  have HR2 := Lib.hid hR2; have HA2 := Lib.hid ((Af.of HBB.out HBASE.out).trans hA); have HG := Lib.hid hG; have HK2 := Lib.hid k2
  clear hR2 hA hG k2
  go_wp2_with fail
  exact body_end HR2.out HA2.out HG.out HK2.out (by omega) (by have := HBASE.out; omega) rfl rfl
set_option maxRecDepth 100000 in
set_option maxHeartbeats 4000000 in
theorem body_13 (base b : Nat) (ns : List NN) (oa ob oc od : Int) (os : ByteArray) (w : World) (h : AR w base b ns) (ho : W64 oa ∧ W64 ob ∧ W64 oc ∧ W64 od) (hT : Tb base w) :
    Calls Tryd.prog 28 #[.pointer (some ⟨b, 0, none⟩), .agg #[.int .i64 13, .int .i64 oa, .int .i64 ob, .int .i64 oc, .int .i64 od, .string os]] w (BdP base b ns w) := by
  obtain ⟨hwa, hwb, hwc, hwd⟩ := ho
  have hb := h.base_le
  obtain ⟨W, hW⟩ : ∃ W, ((w.alloc (.cells #[.int .i64 13, .int .i64 oa, .int .i64 ob, .int .i64 oc, .int .i64 od, .string os] 46)).alloc (.cells #[.int .i64 0, .int .i64 0, .bool false] 48)) = W := ⟨_, rfl⟩
  have hB : Below w.heap.size w W := by rw [← hW]; exact ((Below.refl _ w).alloc (Nat.le_refl _) _).alloc (by simp) _
  have hp : W.heap[w.heap.size + 1]? = some (.cells #[.int .i64 0, .int .i64 0, .bool false] 48 (0, 0)) := by rw [← hW]; exact two_b _ _ _
  have hR := h.below hB
  have hT2 := hT.on (hB.mono hb)
  have HC : Hid (Calls Tryd.prog 18 #[.pointer (some ⟨b, 0, none⟩), .int .i64 oa, .int .i64 ob] W (WkP base b ns W)) := Lib.hid ((unblind_ok base b ns oa ob W hR hT2).mono fun _ _ q => q.wk (by omega))
  have HBASE := Lib.hid hb; have HPP := Lib.hid hp; have HBB := Lib.hid hB; have HW := Lib.hid hW
  clear h hT hW hB hp hR hT2 hb hwa hwb hwc hwd
  go_enter Tryd.func28, Tryd.ntmps28
  go_wp2_with (go_at_call 18; rw [HW.out]; refine HC.out.mono ?_; rintro e w2 ⟨t, er, ns2, rfl, hR2, hA, hG⟩; refine Hid.out ?_)
  refine Lib.hid ?_
  have k2 := hA.keep _ _ HPP.out (Plain.cells (by decide) (by decide))
  have q0 : w2.cell? ⟨w.heap.size + 1, 0, none⟩ = some (.int .i64 0) := cell_of k2 0
  have q1 : w2.cell? ⟨w.heap.size + 1, 1, none⟩ = some (.int .i64 0) := cell_of k2 1
  have q2 : w2.cell? ⟨w.heap.size + 1, 2, none⟩ = some (.bool false) := cell_of k2 2
  have y0 := frz_of k2 0
  have y1 := frz_of k2 1
  have y2 := frz_of k2 2
  have HR2 := Lib.hid hR2; have HA2 := Lib.hid ((Af.of HBB.out HBASE.out).trans hA); have HG := Lib.hid hG; have HK2 := Lib.hid k2
  clear hR2 hA hG k2
  go_wp2_with fail
  exact body_end HR2.out HA2.out HG.out HK2.out (by omega) (by have := HBASE.out; omega) rfl rfl
set_option maxRecDepth 100000 in
set_option maxHeartbeats 4000000 in
theorem body_14 (base b : Nat) (ns : List NN) (oa ob oc od : Int) (os : ByteArray) (w : World) (h : AR w base b ns) (ho : W64 oa ∧ W64 ob ∧ W64 oc ∧ W64 od) (hT : Tb base w) :
    Calls Tryd.prog 28 #[.pointer (some ⟨b, 0, none⟩), .agg #[.int .i64 14, .int .i64 oa, .int .i64 ob, .int .i64 oc, .int .i64 od, .string os]] w (BdP base b ns w) := by
  obtain ⟨hwa, hwb, hwc, hwd⟩ := ho
  have hb := h.base_le
  obtain ⟨W, hW⟩ : ∃ W, ((w.alloc (.cells #[.int .i64 14, .int .i64 oa, .int .i64 ob, .int .i64 oc, .int .i64 od, .string os] 46)).alloc (.cells #[.int .i64 0, .int .i64 0, .bool false] 48)) = W := ⟨_, rfl⟩
  have hB : Below w.heap.size w W := by rw [← hW]; exact ((Below.refl _ w).alloc (Nat.le_refl _) _).alloc (by simp) _
  have hp : W.heap[w.heap.size + 1]? = some (.cells #[.int .i64 0, .int .i64 0, .bool false] 48 (0, 0)) := by rw [← hW]; exact two_b _ _ _
  have hR := h.below hB
  have hT2 := hT.on (hB.mono hb)
  have HC : Hid (Calls Tryd.prog 20 #[.pointer (some ⟨b, 0, none⟩), .int .i64 oa] W (WkP base b ns W)) := Lib.hid ((fresh_ok base b ns oa W hR hwa hT2).mono fun _ _ q => q.wk)
  have HBASE := Lib.hid hb; have HPP := Lib.hid hp; have HBB := Lib.hid hB; have HW := Lib.hid hW
  clear h hT hW hB hp hR hT2 hb hwa hwb hwc hwd
  go_enter Tryd.func28, Tryd.ntmps28
  go_wp2_with (go_at_call 20; rw [HW.out]; refine HC.out.mono ?_; rintro e w2 ⟨t, er, ns2, rfl, hR2, hA, hG⟩; refine Hid.out ?_)
  refine Lib.hid ?_
  have k2 := hA.keep _ _ HPP.out (Plain.cells (by decide) (by decide))
  have q0 : w2.cell? ⟨w.heap.size + 1, 0, none⟩ = some (.int .i64 0) := cell_of k2 0
  have q1 : w2.cell? ⟨w.heap.size + 1, 1, none⟩ = some (.int .i64 0) := cell_of k2 1
  have q2 : w2.cell? ⟨w.heap.size + 1, 2, none⟩ = some (.bool false) := cell_of k2 2
  have y0 := frz_of k2 0
  have y1 := frz_of k2 1
  have y2 := frz_of k2 2
  have HR2 := Lib.hid hR2; have HA2 := Lib.hid ((Af.of HBB.out HBASE.out).trans hA); have HG := Lib.hid hG; have HK2 := Lib.hid k2
  clear hR2 hA hG k2
  go_wp2_with fail
  exact body_end HR2.out HA2.out HG.out HK2.out (by omega) (by have := HBASE.out; omega) rfl rfl
set_option maxRecDepth 100000 in
set_option maxHeartbeats 4000000 in
theorem body_9 (base b : Nat) (ns : List NN) (oa ob oc od : Int) (os : ByteArray) (w : World) (h : AR w base b ns) (ho : W64 oa ∧ W64 ob ∧ W64 oc ∧ W64 od) (hT : Tb base w) :
    Calls Tryd.prog 28 #[.pointer (some ⟨b, 0, none⟩), .agg #[.int .i64 9, .int .i64 oa, .int .i64 ob, .int .i64 oc, .int .i64 od, .string os]] w (BdP base b ns w) := by
  obtain ⟨hwa, hwb, hwc, hwd⟩ := ho
  have hb := h.base_le
  obtain ⟨W, hW⟩ : ∃ W, ((w.alloc (.cells #[.int .i64 9, .int .i64 oa, .int .i64 ob, .int .i64 oc, .int .i64 od, .string os] 46)).alloc (.cells #[.int .i64 0, .int .i64 0, .bool false] 48)) = W := ⟨_, rfl⟩
  have hB : Below w.heap.size w W := by rw [← hW]; exact ((Below.refl _ w).alloc (Nat.le_refl _) _).alloc (by simp) _
  have hp : W.heap[w.heap.size + 1]? = some (.cells #[.int .i64 0, .int .i64 0, .bool false] 48 (0, 0)) := by rw [← hW]; exact two_b _ _ _
  have hR := h.below hB
  have hT2 := hT.on (hB.mono hb)
  have HC := Lib.hid (verify_ok base b ns oa ob oc W hR)
  have HBASE := Lib.hid hb; have HPP := Lib.hid hp; have HBB := Lib.hid hB; have HW := Lib.hid hW
  have HAR := Lib.hid hR
  clear h hT hW hB hp hR hT2 hb hwa hwb hwc hwd
  go_enter Tryd.func28, Tryd.ntmps28
  go_wp2_with (go_at_call 14; rw [HW.out]; refine HC.out.mono ?_; rintro e w1 ⟨r, rfl, _, hB1⟩; refine Hid.out ?_)
  refine Lib.hid ?_
  have HY := Lib.hid (yes_ok r w1)
  have HB1 := Lib.hid hB1
  clear hB1
  go_wp2_with (go_at_call 36; refine HY.out.mono ?_; rintro e w2 ⟨rfl, hB2⟩; refine Hid.out ?_)
  refine Lib.hid ?_
  have hB12 : Below W.heap.size W w2 := nx HB1.out hB2
  have hR2 : AR w2 base b ns := (HAR.out).below hB12
  have hA : Af base W w2 := Af.of hB12 (by have := HBB.out.size; have := HBASE.out; omega)
  have hG : Grow ns ns 3 := Grow.refl _ _
  clear hB2 hB12
  have k2 := hA.keep _ _ HPP.out (Plain.cells (by decide) (by decide))
  have q0 : w2.cell? ⟨w.heap.size + 1, 0, none⟩ = some (.int .i64 0) := cell_of k2 0
  have q1 : w2.cell? ⟨w.heap.size + 1, 1, none⟩ = some (.int .i64 0) := cell_of k2 1
  have q2 : w2.cell? ⟨w.heap.size + 1, 2, none⟩ = some (.bool false) := cell_of k2 2
  have y0 := frz_of k2 0
  have y1 := frz_of k2 1
  have y2 := frz_of k2 2
  have HR2 := Lib.hid hR2; have HA2 := Lib.hid ((Af.of HBB.out HBASE.out).trans hA); have HG := Lib.hid hG; have HK2 := Lib.hid k2
  clear hR2 hA hG k2
  go_wp2_with fail
  exact body_end HR2.out HA2.out HG.out HK2.out (by omega) (by have := HBASE.out; omega) rfl rfl
set_option maxRecDepth 100000 in
set_option maxHeartbeats 4000000 in
theorem body_11 (base b : Nat) (ns : List NN) (oa ob oc od : Int) (os : ByteArray) (w : World) (h : AR w base b ns) (ho : W64 oa ∧ W64 ob ∧ W64 oc ∧ W64 od) (hT : Tb base w) :
    Calls Tryd.prog 28 #[.pointer (some ⟨b, 0, none⟩), .agg #[.int .i64 11, .int .i64 oa, .int .i64 ob, .int .i64 oc, .int .i64 od, .string os]] w (BdP base b ns w) := by
  obtain ⟨hwa, hwb, hwc, hwd⟩ := ho
  have hb := h.base_le
  obtain ⟨W, hW⟩ : ∃ W, ((w.alloc (.cells #[.int .i64 11, .int .i64 oa, .int .i64 ob, .int .i64 oc, .int .i64 od, .string os] 46)).alloc (.cells #[.int .i64 0, .int .i64 0, .bool false] 48)) = W := ⟨_, rfl⟩
  have hB : Below w.heap.size w W := by rw [← hW]; exact ((Below.refl _ w).alloc (Nat.le_refl _) _).alloc (by simp) _
  have hp : W.heap[w.heap.size + 1]? = some (.cells #[.int .i64 0, .int .i64 0, .bool false] 48 (0, 0)) := by rw [← hW]; exact two_b _ _ _
  have hR := h.below hB
  have hT2 := hT.on (hB.mono hb)
  have HC := Lib.hid (check_ok base b ns oa ob oc W hR)
  have HBASE := Lib.hid hb; have HPP := Lib.hid hp; have HBB := Lib.hid hB; have HW := Lib.hid hW
  have HAR := Lib.hid hR
  clear h hT hW hB hp hR hT2 hb hwa hwb hwc hwd
  go_enter Tryd.func28, Tryd.ntmps28
  go_wp2_with (go_at_call 15; rw [HW.out]; refine HC.out.mono ?_; rintro e w1 ⟨r, rfl, _, hB1⟩; refine Hid.out ?_)
  refine Lib.hid ?_
  have HY := Lib.hid (yes_ok r w1)
  have HB1 := Lib.hid hB1
  clear hB1
  go_wp2_with (go_at_call 36; refine HY.out.mono ?_; rintro e w2 ⟨rfl, hB2⟩; refine Hid.out ?_)
  refine Lib.hid ?_
  have hB12 : Below W.heap.size W w2 := nx HB1.out hB2
  have hR2 : AR w2 base b ns := (HAR.out).below hB12
  have hA : Af base W w2 := Af.of hB12 (by have := HBB.out.size; have := HBASE.out; omega)
  have hG : Grow ns ns 3 := Grow.refl _ _
  clear hB2 hB12
  have k2 := hA.keep _ _ HPP.out (Plain.cells (by decide) (by decide))
  have q0 : w2.cell? ⟨w.heap.size + 1, 0, none⟩ = some (.int .i64 0) := cell_of k2 0
  have q1 : w2.cell? ⟨w.heap.size + 1, 1, none⟩ = some (.int .i64 0) := cell_of k2 1
  have q2 : w2.cell? ⟨w.heap.size + 1, 2, none⟩ = some (.bool false) := cell_of k2 2
  have y0 := frz_of k2 0
  have y1 := frz_of k2 1
  have y2 := frz_of k2 2
  have HR2 := Lib.hid hR2; have HA2 := Lib.hid ((Af.of HBB.out HBASE.out).trans hA); have HG := Lib.hid hG; have HK2 := Lib.hid k2
  clear hR2 hA hG k2
  go_wp2_with fail
  exact body_end HR2.out HA2.out HG.out HK2.out (by omega) (by have := HBASE.out; omega) rfl rfl
set_option maxRecDepth 100000 in
set_option maxHeartbeats 8000000 in
theorem body_x (base b : Nat) (ns : List NN) (oa ob oc od : Int) (os : ByteArray) (w : World) (h : AR w base b ns) (ho : W64 oa ∧ W64 ob ∧ W64 oc ∧ W64 od) (hT : Tb base w) (ok : Int) (hk : ∀ j : Int, 0 ≤ j → j ≤ 14 → ok ≠ j) :
    Calls Tryd.prog 28 #[.pointer (some ⟨b, 0, none⟩), .agg #[.int .i64 ok, .int .i64 oa, .int .i64 ob, .int .i64 oc, .int .i64 od, .string os]] w (BdP base b ns w) := by
  obtain ⟨hwa, hwb, hwc, hwd⟩ := ho
  have hb := h.base_le
  obtain ⟨W, hW⟩ : ∃ W, ((w.alloc (.cells #[.int .i64 ok, .int .i64 oa, .int .i64 ob, .int .i64 oc, .int .i64 od, .string os] 46)).alloc (.cells #[.int .i64 0, .int .i64 0, .bool false] 48)) = W := ⟨_, rfl⟩
  have hB : Below w.heap.size w W := by rw [← hW]; exact ((Below.refl _ w).alloc (Nat.le_refl _) _).alloc (by simp) _
  have hp : W.heap[w.heap.size + 1]? = some (.cells #[.int .i64 0, .int .i64 0, .bool false] 48 (0, 0)) := by rw [← hW]; exact two_b _ _ _
  have hR := h.below hB
  have hT2 := hT.on (hB.mono hb)
  have hrow : Below W.heap.size W (W.alloc (.cells #[.int .i64 oa, .int .i64 ob, .int .i64 oc] 3)) := (Below.refl _ W).alloc (Nat.le_refl _) _
  have hbW := hR.base_le
  have HC : Hid (Calls Tryd.prog 27 #[.pointer (some ⟨b, 0, none⟩), .slice (some ⟨W.heap.size, 0, none⟩) 3 3] (W.alloc (.cells #[.int .i64 oa, .int .i64 ob, .int .i64 oc] 3)) (WkP base b ns (W.alloc (.cells #[.int .i64 oa, .int .i64 ob, .int .i64 oc] 3)))) := Lib.hid ((all_ok base b ns _ 3 3 [oa, ob, oc] _ (hR.alloc _) (sl_row W [oa, ob, oc] (by simp [maxLen])) (by simp; exact ⟨hwa, hwb, hwc⟩) (hT2.on (hrow.mono hbW))).mono fun _ _ q => q.wk)
  have hA0 : Af base W (W.alloc (.cells #[.int .i64 oa, .int .i64 ob, .int .i64 oc] 3)) := Af.of hrow hbW
  have HA0 := Lib.hid hA0
  have hWs : W.heap.size = w.heap.size + 2 := by rw [← hW]; simp
  rw [hWs] at HC
  have HBASE := Lib.hid hb; have HPP := Lib.hid hp; have HBB := Lib.hid hB; have HW := Lib.hid hW
  have t0 : (ok == 0) = false := by rw [beq_eq_false_iff_ne]; exact hk 0 (by omega) (by omega)
  have t1 : (ok == 1) = false := by rw [beq_eq_false_iff_ne]; exact hk 1 (by omega) (by omega)
  have t2 : (ok == 2) = false := by rw [beq_eq_false_iff_ne]; exact hk 2 (by omega) (by omega)
  have t3 : (ok == 3) = false := by rw [beq_eq_false_iff_ne]; exact hk 3 (by omega) (by omega)
  have t4 : (ok == 4) = false := by rw [beq_eq_false_iff_ne]; exact hk 4 (by omega) (by omega)
  have t5 : (ok == 5) = false := by rw [beq_eq_false_iff_ne]; exact hk 5 (by omega) (by omega)
  have t6 : (ok == 6) = false := by rw [beq_eq_false_iff_ne]; exact hk 6 (by omega) (by omega)
  have t7 : (ok == 7) = false := by rw [beq_eq_false_iff_ne]; exact hk 7 (by omega) (by omega)
  have t8 : (ok == 8) = false := by rw [beq_eq_false_iff_ne]; exact hk 8 (by omega) (by omega)
  have t9 : (ok == 9) = false := by rw [beq_eq_false_iff_ne]; exact hk 9 (by omega) (by omega)
  have t10 : (ok == 10) = false := by rw [beq_eq_false_iff_ne]; exact hk 10 (by omega) (by omega)
  have t11 : (ok == 11) = false := by rw [beq_eq_false_iff_ne]; exact hk 11 (by omega) (by omega)
  have t12 : (ok == 12) = false := by rw [beq_eq_false_iff_ne]; exact hk 12 (by omega) (by omega)
  have t13 : (ok == 13) = false := by rw [beq_eq_false_iff_ne]; exact hk 13 (by omega) (by omega)
  have t14 : (ok == 14) = false := by rw [beq_eq_false_iff_ne]; exact hk 14 (by omega) (by omega)
  clear h hT hW hB hp hR hT2 hb hwa hwb hwc hwd hrow hbW hA0 hWs hk
  go_enter Tryd.func28, Tryd.ntmps28
  go_wp2_with (go_at_call 27; rw [HW.out]; refine HC.out.mono ?_; rintro e w2 ⟨t, er, ns2, rfl, hR2, hA1, hG⟩; refine Hid.out ?_)
  refine Lib.hid ?_
  have hA := (HA0.out).trans hA1
  clear hA1
  have k2 := hA.keep _ _ HPP.out (Plain.cells (by decide) (by decide))
  have q0 : w2.cell? ⟨w.heap.size + 1, 0, none⟩ = some (.int .i64 0) := cell_of k2 0
  have q1 : w2.cell? ⟨w.heap.size + 1, 1, none⟩ = some (.int .i64 0) := cell_of k2 1
  have q2 : w2.cell? ⟨w.heap.size + 1, 2, none⟩ = some (.bool false) := cell_of k2 2
  have y0 := frz_of k2 0
  have y1 := frz_of k2 1
  have y2 := frz_of k2 2
  have HR2 := Lib.hid hR2; have HA2 := Lib.hid ((Af.of HBB.out HBASE.out).trans hA); have HG := Lib.hid hG; have HK2 := Lib.hid k2
  clear hR2 hA hG k2
  go_wp2_with fail
  exact body_end HR2.out HA2.out HG.out HK2.out (by omega) (by have := HBASE.out; omega) rfl rfl
set_option maxRecDepth 100000 in
theorem body_ok (base b : Nat) (ns : List NN) (o : OpN) (w : World) (h : AR w base b ns) (ho : OWf o) (hT : Tb base w) :
    Calls Tryd.prog 28 #[.pointer (some ⟨b, 0, none⟩), .agg #[.int .i64 o.k, .int .i64 o.a, .int .i64 o.b, .int .i64 o.c, .int .i64 o.d, .string o.s]] w (BdP base b ns w) := by
  obtain ⟨k, oa, ob, oc, od, os⟩ := o
  replace ho := ho.2
  by_cases hk : 0 ≤ k ∧ k ≤ 14
  · have hk' : k = 0 ∨ k = 1 ∨ k = 2 ∨ k = 3 ∨ k = 4 ∨ k = 5 ∨ k = 6 ∨ k = 7 ∨ k = 8 ∨ k = 9 ∨ k = 10 ∨ k = 11 ∨ k = 12 ∨ k = 13 ∨ k = 14 := by omega
    rcases hk' with rfl | rfl | rfl | rfl | rfl | rfl | rfl | rfl | rfl | rfl | rfl | rfl | rfl | rfl | rfl
    · exact body_0 base b ns oa ob oc od os w h ho hT
    · exact body_1 base b ns oa ob oc od os w h ho hT
    · exact body_2 base b ns oa ob oc od os w h ho hT
    · exact body_3 base b ns oa ob oc od os w h ho hT
    · exact body_4 base b ns oa ob oc od os w h ho hT
    · exact body_5 base b ns oa ob oc od os w h ho hT
    · exact body_6 base b ns oa ob oc od os w h ho hT
    · exact body_7 base b ns oa ob oc od os w h ho hT
    · exact body_8 base b ns oa ob oc od os w h ho hT
    · exact body_9 base b ns oa ob oc od os w h ho hT
    · exact body_10 base b ns oa ob oc od os w h ho hT
    · exact body_11 base b ns oa ob oc od os w h ho hT
    · exact body_12 base b ns oa ob oc od os w h ho hT
    · exact body_13 base b ns oa ob oc od os w h ho hT
    · exact body_14 base b ns oa ob oc od os w h ho hT
  · exact body_x base b ns oa ob oc od os w h ho hT k (fun j h0 h14 e => hk ⟨by omega, by omega⟩)
end Go.Proofs.YthbfaledmoobjaaDoor
