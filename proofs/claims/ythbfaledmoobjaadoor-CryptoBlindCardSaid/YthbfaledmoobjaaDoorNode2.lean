/- The walk of node. -/
import Derived.Test.YthbfaledmoobjaaDoorNode
import Derived.BigRegion
namespace Go.Proofs.YthbfaledmoobjaaDoor
open Go.RowKit

def IsNd (ns : List NN) (t op : Int) (x : NN) (is : Bool) : Prop := (is = true ∧ 0 ≤ t ∧ ns[t.toNat]? = some x ∧ x.op = op) ∨ (is = false ∧ ∀ y, 0 ≤ t → ns[t.toNat]? = some y → y.op ≠ op)
def NdP (ns : List NN) (t op : Int) (w : World) (e : Ending) (w' : World) : Prop :=
  ∃ x B d is, e = .returned (.tuple #[.agg #[.int .i64 x.op, .int .i64 x.n, .string x.s, .slice B x.l.length d], .bool is]) ∧ Sl w' B x.l.length d (iv x.l) ∧ Below w.heap.size w w' ∧ IsNd ns t op x is
/-- a struct of four cells, stored whole -/
theorem four_set {w : World} {p : Nat} {c0 c1 c2 c3 : Value} (h : w.heap[p]? = some (.cells #[c0, c1, c2, c3] 56 (0, 0))) (a b c d : Value) :
    ((((w.setCell ⟨p, 0, none⟩ a).setCell ⟨p, 1, none⟩ b).setCell ⟨p, 2, none⟩ c).setCell ⟨p, 3, none⟩ d).heap[p]? = some (.cells #[a, b, c, d] 56 (0, 0)) := by
  have k1 := heap_setCell_same _ _ 0 _ _ a h
  have k2 := heap_setCell_same _ _ 1 _ _ b k1
  have k3 := heap_setCell_same _ _ 2 _ _ c k2
  exact heap_setCell_same _ _ 3 _ _ d k3
theorem four_below {B : Nat} {w0 w : World} {p : Nat} (h : Below B w0 w) (hp : B ≤ p) (a b c d : Value) : Below B w0 ((((w.setCell ⟨p, 0, none⟩ a).setCell ⟨p, 1, none⟩ b).setCell ⟨p, 2, none⟩ c).setCell ⟨p, 3, none⟩ d) :=
  (((h.setCell hp a).setCell hp b).setCell hp c).setCell hp d
/-- a row of numbers stands while a block of nodes is written -/
theorem four_row {w : World} {p : Nat} {cs : Array Value} {fz : Nat × Nat} (hp : w.heap[p]? = some (.cells cs 56 fz)) {A : Option Addr} {n c : Nat} {l : List Int} (h : Sl w A n c (iv l)) (hn : Nums w A l) (a b x d : Value) :
    Sl ((((w.setCell ⟨p, 0, none⟩ a).setCell ⟨p, 1, none⟩ b).setCell ⟨p, 2, none⟩ x).setCell ⟨p, 3, none⟩ d) A n c (iv l) := by
  refine ⟨h.len, h.cap, h.top, ?_⟩
  rcases hn with rfl | ⟨ad, cur, fz2, rfl, hh⟩
  · exact .inl rfl
  · have hne : ad.block ≠ p := fun e => by rw [e, hp] at hh; injection hh with hh; injection hh with _ h2 _; exact absurd h2 (by decide)
    rcases h.lies with e | ⟨ad2, e, hc⟩
    · exact .inl e
    · injection e with e
      subst e
      exact .inr ⟨_, rfl, fun j v hv => by
        have hb : (ad.add j).block ≠ p := by rw [blk_add]; exact hne
        have := hc j v hv
        rw [← this]
        apply World.cell?_of_block
        rw [heap_setCell_other _ _ _ _ hb, heap_setCell_other _ _ _ _ hb, heap_setCell_other _ _ _ _ hb, heap_setCell_other _ _ _ _ hb]⟩
set_option maxRecDepth 100000 in
set_option maxHeartbeats 8000000 in
theorem nd_ok (base b : Nat) (ns : List NN) (t op : Int) (w : World) (h : AR w base b ns) :
    Calls Tryd.prog 30 #[.pointer (some ⟨b, 0, none⟩), .int .i64 t, .int .i64 op] w (NdP ns t op w) := by
  have HN := Lib.hid (node_ok base b ns t _ (h.alloc (.cells #[.int .i64 0, .int .i64 0, .string ⟨#[]⟩, .slice none 0 0] 56)))
  clear h
  go_enter Tryd.func30, Tryd.ntmps30
  go_wp2_with (go_at_call 37; refine HN.out.mono ?_; rintro e w1 ⟨x, B, d, er, rfl, hsl, hNm, hB, hcase⟩; refine Hid.out ?_)
  refine Lib.hid ?_
  have h4 : w1.heap[w.heap.size]? = some (.cells #[.int .i64 0, .int .i64 0, .string ⟨#[]⟩, .slice none 0 0] 56 (0, 0)) := by
    rw [hB.block _ (by simp)]; exact heap_alloc_new _ _
  have hsz : w.heap.size < w1.heap.size := by have := hB.size; simp at this; omega
  obtain ⟨W2, hW2⟩ : ∃ W2, w1.alloc (.cells #[.int .i64 x.op, .int .i64 x.n, .string x.s, .slice B x.l.length d] 56) = W2 := ⟨_, rfl⟩
  have k4 : W2.heap[w.heap.size]? = some (.cells #[.int .i64 0, .int .i64 0, .string ⟨#[]⟩, .slice none 0 0] 56 (0, 0)) := by rw [← hW2, Below.heap_alloc _ _ _ hsz]; exact h4
  have k6 : W2.heap[w1.heap.size]? = some (.cells #[.int .i64 x.op, .int .i64 x.n, .string x.s, .slice B x.l.length d] 56 (0, 0)) := by rw [← hW2]; exact heap_alloc_new _ _
  have hs2 : Sl W2 B x.l.length d (iv x.l) := by rw [← hW2]; exact hsl.alloc _
  have hN2 : Nums W2 B x.l := by rw [← hW2]; exact hNm.keep (fun q hq => Below.heap_alloc _ _ _ hq)
  have hB2 : Below w.heap.size w W2 := by
    rw [← hW2]
    exact (((Below.refl _ w).alloc (Nat.le_refl _) _).trans (hB.mono (by simp))).alloc (by omega) _
  obtain ⟨g, hg⟩ : ∃ g, w1.heap.size = g := ⟨_, rfl⟩
  have q0 : W2.cell? ⟨g, 0, none⟩ = some (.int .i64 x.op) := by rw [← hg]; exact cell_of k6 0
  have q1 : W2.cell? ⟨g, 1, none⟩ = some (.int .i64 x.n) := by rw [← hg]; exact cell_of k6 1
  have q2 : W2.cell? ⟨g, 2, none⟩ = some (.string x.s) := by rw [← hg]; exact cell_of k6 2
  have q3 : W2.cell? ⟨g, 3, none⟩ = some (.slice B x.l.length d) := by rw [← hg]; exact cell_of k6 3
  have r0 : W2.cell? ⟨w.heap.size, 0, none⟩ = some (.int .i64 0) := cell_of k4 0
  have r1 : W2.cell? ⟨w.heap.size, 1, none⟩ = some (.int .i64 0) := cell_of k4 1
  have r2 : W2.cell? ⟨w.heap.size, 2, none⟩ = some (.string ⟨#[]⟩) := cell_of k4 2
  have r3 : W2.cell? ⟨w.heap.size, 3, none⟩ = some (.slice none 0 0) := cell_of k4 3
  have y0 := frz_of k4 0
  have y1 := frz_of k4 1
  have y2 := frz_of k4 2
  have y3 := frz_of k4 3
  have hne : w.heap.size ≠ g := by omega
  have hf := four_set k4 (.int .i64 x.op) (.int .i64 x.n) (.string x.s) (.slice B x.l.length d)
  have hfB := four_below hB2 (Nat.le_refl _) (.int .i64 x.op) (.int .i64 x.n) (.string x.s) (.slice B x.l.length d)
  have hfS := four_row k4 hs2 hN2 (.int .i64 x.op) (.int .i64 x.n) (.string x.s) (.slice B x.l.length d)
  have HF := Lib.hid hf
  have HFB := Lib.hid hfB
  have HFS := Lib.hid hfS
  have HC := Lib.hid hcase
  have HW2 := Lib.hid hW2
  have HG := Lib.hid hg
  clear h4 hsz k4 k6 hsl hB hcase hW2 hg hs2 hNm hN2 hB2 hf hfB hfS
  have hfin : ∀ is : Bool, IsNd ns t op x is → ∀ (a : Act) (W : World), W = ((((W2.setCell ⟨w.heap.size, 0, none⟩ (.int .i64 x.op)).setCell ⟨w.heap.size, 1, none⟩ (.int .i64 x.n)).setCell ⟨w.heap.size, 2, none⟩ (.string x.s)).setCell ⟨w.heap.size, 3, none⟩ (.slice B x.l.length d)).drew →
      a.defers = [] → a.tmps[6]? = some (.pointer (some ⟨w.heap.size, 0, none⟩)) → a.tmps[7]? = some (.bool is) → bodyPost Tryd.prog Tryd.f30 (NdP ns t op w) Exit.ret a W := by
    rintro is his a W rfl hdf h6 h7
    have k0 : (((((W2.setCell ⟨w.heap.size, 0, none⟩ (.int .i64 x.op)).setCell ⟨w.heap.size, 1, none⟩ (.int .i64 x.n)).setCell ⟨w.heap.size, 2, none⟩ (.string x.s)).setCell ⟨w.heap.size, 3, none⟩ (.slice B x.l.length d)).drew).cell? ⟨w.heap.size, 0, none⟩ = some (.int .i64 x.op) := cell_of HF.out 0
    have k1 : (((((W2.setCell ⟨w.heap.size, 0, none⟩ (.int .i64 x.op)).setCell ⟨w.heap.size, 1, none⟩ (.int .i64 x.n)).setCell ⟨w.heap.size, 2, none⟩ (.string x.s)).setCell ⟨w.heap.size, 3, none⟩ (.slice B x.l.length d)).drew).cell? ⟨w.heap.size, 1, none⟩ = some (.int .i64 x.n) := cell_of HF.out 1
    have k2 : (((((W2.setCell ⟨w.heap.size, 0, none⟩ (.int .i64 x.op)).setCell ⟨w.heap.size, 1, none⟩ (.int .i64 x.n)).setCell ⟨w.heap.size, 2, none⟩ (.string x.s)).setCell ⟨w.heap.size, 3, none⟩ (.slice B x.l.length d)).drew).cell? ⟨w.heap.size, 2, none⟩ = some (.string x.s) := cell_of HF.out 2
    have k3 : (((((W2.setCell ⟨w.heap.size, 0, none⟩ (.int .i64 x.op)).setCell ⟨w.heap.size, 1, none⟩ (.int .i64 x.n)).setCell ⟨w.heap.size, 2, none⟩ (.string x.s)).setCell ⟨w.heap.size, 3, none⟩ (.slice B x.l.length d)).drew).cell? ⟨w.heap.size, 3, none⟩ = some (.slice B x.l.length d) := cell_of HF.out 3
    have hBB : Below w.heap.size w (((((W2.setCell ⟨w.heap.size, 0, none⟩ (.int .i64 x.op)).setCell ⟨w.heap.size, 1, none⟩ (.int .i64 x.n)).setCell ⟨w.heap.size, 2, none⟩ (.string x.s)).setCell ⟨w.heap.size, 3, none⟩ (.slice B x.l.length d)).drew) := HFB.out.drew
    have hSS := HFS.out.drew
    clear q0 q1 q2 q3 r0 r1 r2 r3 y0 y1 y2 y3
    generalize (((((W2.setCell ⟨w.heap.size, 0, none⟩ (.int .i64 x.op)).setCell ⟨w.heap.size, 1, none⟩ (.int .i64 x.n)).setCell ⟨w.heap.size, 2, none⟩ (.string x.s)).setCell ⟨w.heap.size, 3, none⟩ (.slice B x.l.length d)).drew) = wf at *
    refine bodyPost_ret (v := .tuple #[.agg #[.int .i64 x.op, .int .i64 x.n, .string x.s, .slice B x.l.length d], .bool is]) (by simp [results, Tryd.results30, go_sem, k0, k1, k2, k3, h6, h7]) hdf ?_
    exact ⟨x, B, d, is, rfl, hSS, hBB, his⟩
  have HFIN := Lib.hid hfin
  clear hfin
  by_cases he : er = 0
  · subst he
    have hx : 0 ≤ t ∧ ns[t.toNat]? = some x := by
      rcases HC.out with ⟨_, q, _⟩ | ⟨_, q⟩
      · cases q
      · exact q
    by_cases hop : x.op = op
    · have t1 : (x.op == op) = true := by rw [beq_iff_eq]; exact hop
      have HI : Hid (IsNd ns t op x true) := Lib.hid (.inl ⟨rfl, hx.1, hx.2, hop⟩)
      clear hop hx
      go_wp2_with fail
      rw [HW2.out, HG.out]
      go_region
      go_wp2_with fail
      exact HFIN.out true HI.out _ _ rfl rfl rfl rfl
    · have t1 : (x.op == op) = false := by rw [beq_eq_false_iff_ne]; exact hop
      have HI : Hid (IsNd ns t op x false) := Lib.hid (.inr ⟨rfl, fun y _ hy => by rw [hx.2] at hy; injection hy with hy; rw [← hy]; exact hop⟩)
      clear hop hx
      go_wp2_with fail
      rw [HW2.out, HG.out]
      go_region
      go_wp2_with fail
      exact HFIN.out false HI.out _ _ rfl rfl rfl rfl
  · have h4 : er = 4 := by
      rcases HC.out with ⟨_, q, _⟩ | ⟨q, _⟩
      · exact q
      · exact absurd q he
    have HI : Hid (IsNd ns t op x false) := Lib.hid (.inr ⟨rfl, fun y h0 hy => by
      rcases HC.out with ⟨q, _, _⟩ | ⟨q, _⟩
      · exfalso
        have := (List.getElem?_eq_some_iff.1 hy).1
        unfold hasF at q
        rw [decide_eq_true h0, decide_eq_true (show t < (ns.length : Int) by omega)] at q
        cases q
      · exact absurd q he⟩)
    subst h4
    clear he
    go_wp2_with fail
    rw [HW2.out, HG.out]
    go_region
    go_wp2_with fail
    exact HFIN.out false HI.out _ _ rfl rfl rfl rfl
end Go.Proofs.YthbfaledmoobjaaDoor
