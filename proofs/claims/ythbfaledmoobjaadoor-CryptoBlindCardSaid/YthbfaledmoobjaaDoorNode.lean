/- The walks of Node and node. -/
import Derived.Test.YthbfaledmoobjaaDoorKnown
namespace Go.Proofs.YthbfaledmoobjaaDoor
open Go.RowKit

def nilN : NN := ⟨0, 0, ⟨#[]⟩, []⟩
def NodeP (ns : List NN) (t : Int) (w : World) (e : Ending) (w' : World) : Prop :=
  ∃ x B d er, e = .returned (.tuple #[.agg #[.int .i64 x.op, .int .i64 x.n, .string x.s, .slice B x.l.length d], .int .i64 er]) ∧ Sl w' B x.l.length d (iv x.l) ∧ Nums w' B x.l ∧ Below w.heap.size w w' ∧
    ((hasF ns t = false ∧ er = 4 ∧ x = nilN) ∨ (er = 0 ∧ 0 ≤ t ∧ ns[t.toNat]? = some x))
theorem ow_nums {w : World} {base : Nat} {A : Option Addr} {n c : Nat} {l : List Int} (h : Ow w base 3 1 A n c (iv l)) : Nums w A l := by
  rcases h.2 with ⟨hv, h0⟩ | ⟨g, cap, cur, hv, _, hh, _⟩
  · left
    have := h.1
    rw [h0, iv_length] at this
    exact List.eq_nil_of_length_eq_zero (by omega)
  · injection hv with hA _ hc
    exact .inr ⟨_, _, _, hA, hh⟩
theorem frz_of {w : World} {b : Nat} {cs : Array Value} {t : TypeId} (h : w.heap[b]? = some (.cells cs t (0, 0))) (j : Nat) : w.frozen? ⟨b, j, none⟩ = false := by
  unfold World.frozen?; simp [h]
theorem two_a (w : World) (o1 o2 : Obj) : ((w.alloc o1).alloc o2).heap[w.heap.size]? = some o1 := by
  rw [Below.heap_alloc (w.alloc o1) o2 w.heap.size (by simp)]; exact heap_alloc_new w o1
theorem two_b (w : World) (o1 o2 : Obj) : ((w.alloc o1).alloc o2).heap[w.heap.size + 1]? = some o2 := by
  have := heap_alloc_new (w.alloc o1) o2
  simpa using this
set_option maxRecDepth 100000 in
set_option maxHeartbeats 4000000 in
theorem node_no (base b : Nat) (ns : List NN) (t : Int) (w : World) (h : AR w base b ns) (ht : hasF ns t = false) :
    Calls Tryd.prog 37 #[.pointer (some ⟨b, 0, none⟩), .int .i64 t] w (NodeP ns t w) := by
  have HH := Lib.hid (has_ok base b ns t _ (h.alloc (.cells #[.int .i64 0, .int .i64 0, .string ⟨#[]⟩, .slice none 0 0] 56)))
  rw [ht] at HH
  have HT := Lib.hid ht
  clear h ht
  go_enter Tryd.func37, Tryd.ntmps37
  go_wp2_with (go_at_call 41; refine HH.out.mono ?_; rintro e w' ⟨rfl, rfl⟩)
  refine bodyPost_ret (v := .tuple #[.agg #[.int .i64 0, .int .i64 0, .string ⟨#[]⟩, .slice none 0 0], .int .i64 4]) (by simp [results, Tryd.results37, go_sem]) rfl ?_
  exact ⟨nilN, none, 0, 4, rfl, Sl.none _, .inl rfl, (Below.refl _ w).alloc (Nat.le_refl _) _, .inl ⟨HT.out, rfl, rfl⟩⟩
set_option maxRecDepth 100000 in
set_option maxHeartbeats 4000000 in
theorem node_yes (base b : Nat) (ns : List NN) (j : Nat) (x : NN) (w : World) (h : AR w base b ns) (hx : ns[j]? = some x) :
    Calls Tryd.prog 37 #[.pointer (some ⟨b, 0, none⟩), .int .i64 (j : Int)] w (NodeP ns (j : Int) w) := by
  have hj : j < ns.length := (List.getElem?_eq_some_iff.1 hx).1
  have HH := Lib.hid (has_ok base b ns (j : Int) _ (h.alloc (.cells #[.int .i64 0, .int .i64 0, .string ⟨#[]⟩, .slice none 0 0] 56)))
  have ht : hasF ns (j : Int) = true := by unfold hasF; rw [decide_eq_true (by omega), decide_eq_true (by omega)]; rfl
  rw [ht] at HH
  have hlen := h.len_le
  unfold maxLen at hlen
  have hmay := (h.may hx).few
  obtain ⟨g, gc, M, B, m, d, f0, f1, hat, _⟩ := (h.alloc (.cells #[.int .i64 0, .int .i64 0, .string ⟨#[]⟩, .slice none 0 0] 56)).node hx
  have HM : Hid (x.l.length = m) := Lib.hid (by have := hat.un.len; rwa [iv_length] at this)
  have hm64 : m ≤ 64 := by have := HM.out; omega
  obtain ⟨a0, a1, a2, a3, hsl⟩ := hat
  have HC := Lib.hid (clone_ok B m d x.l _ (hsl.alloc (.cells #[.int .i64 x.op, .int .i64 x.n, .string x.s, .slice B m d] 56)) (by omega))
  rw [add_mk] at a0 a1 a2 a3
  simp only [Nat.zero_add] at a0 a1 a2 a3
  have i1 : (j : Int) < (ns.length : Int) := by omega
  have HX := Lib.hid hx
  clear h ht hx hmay hsl
  go_enter Tryd.func37, Tryd.ntmps37
  go_wp2_with (first
    | (go_at_call 41; refine HH.out.mono ?_; rintro e w' ⟨rfl, rfl⟩)
    | (go_at_call 40; refine HC.out.mono ?_; rintro e w3 ⟨CA, cc, rfl, hO, hB⟩; refine Hid.out ?_))
  refine Lib.hid ?_
  have h4 : w3.heap[w.heap.size]? = some (.cells #[.int .i64 0, .int .i64 0, .string ⟨#[]⟩, .slice none 0 0] 56 (0, 0)) := by
    rw [hB.block _ (by simp; omega)]; exact two_a _ _ _
  have h6 : w3.heap[w.heap.size + 1]? = some (.cells #[.int .i64 x.op, .int .i64 x.n, .string x.s, .slice B m d] 56 (0, 0)) := by
    rw [hB.block _ (by simp)]; exact two_b _ _ _
  have q0 : w3.cell? ⟨w.heap.size + 1, 0, none⟩ = some (.int .i64 x.op) := cell_of h6 0
  have q1 : w3.cell? ⟨w.heap.size + 1, 1, none⟩ = some (.int .i64 x.n) := cell_of h6 1
  have q2 : w3.cell? ⟨w.heap.size + 1, 2, none⟩ = some (.string x.s) := cell_of h6 2
  have q3 : w3.cell? ⟨w.heap.size + 1, 3, none⟩ = some (.slice B m d) := cell_of h6 3
  have z3 := frz_of h6 3
  have r0 : w3.cell? ⟨w.heap.size, 0, none⟩ = some (.int .i64 0) := cell_of h4 0
  have r1 : w3.cell? ⟨w.heap.size, 1, none⟩ = some (.int .i64 0) := cell_of h4 1
  have r2 : w3.cell? ⟨w.heap.size, 2, none⟩ = some (.string ⟨#[]⟩) := cell_of h4 2
  have r3 : w3.cell? ⟨w.heap.size, 3, none⟩ = some (.slice none 0 0) := cell_of h4 3
  have y0 := frz_of h4 0
  have y1 := frz_of h4 1
  have y2 := frz_of h4 2
  have y3 := frz_of h4 3
  have HO : Hid (Ow w3 (w.heap.size + 2) 3 1 CA m cc (iv x.l)) := Lib.hid (hO.mono (by simp))
  have H4 := Lib.hid h4
  have H6 := Lib.hid h6
  have HB := Lib.hid hB
  clear hO h4 h6 hB
  go_wp2_with fail
  have hh4 : ∀ (a b c d e : Value), (((((w3.setCell ⟨w.heap.size + 1, 3, none⟩ a).setCell ⟨w.heap.size, 0, none⟩ b).setCell ⟨w.heap.size, 1, none⟩ c).setCell ⟨w.heap.size, 2, none⟩ d).setCell ⟨w.heap.size, 3, none⟩ e).heap[w.heap.size]? = some (.cells #[b, c, d, e] 56 (0, 0)) := by
    intro a b c d e
    have k0 : (w3.setCell ⟨w.heap.size + 1, 3, none⟩ a).heap[w.heap.size]? = some (.cells #[.int .i64 0, .int .i64 0, .string ⟨#[]⟩, .slice none 0 0] 56 (0, 0)) := by rw [heap_setCell_other _ _ _ _ (by simp)]; exact H4.out
    have k1 := heap_setCell_same _ _ 0 _ _ b k0
    have k2 := heap_setCell_same _ _ 1 _ _ c k1
    have k3 := heap_setCell_same _ _ 2 _ _ d k2
    have k4 := heap_setCell_same _ _ 3 _ _ e k3
    exact k4
  have hk := hh4 (.slice CA m cc) (.int .i64 x.op) (.int .i64 x.n) (.string x.s) (.slice CA m cc)
  have hB2 : Below w.heap.size w (((((w3.setCell ⟨w.heap.size + 1, 3, none⟩ (.slice CA m cc)).setCell ⟨w.heap.size, 0, none⟩ (.int .i64 x.op)).setCell ⟨w.heap.size, 1, none⟩ (.int .i64 x.n)).setCell ⟨w.heap.size, 2, none⟩ (.string x.s)).setCell ⟨w.heap.size, 3, none⟩ (.slice CA m cc)) := by
    refine Below.setCell (Below.setCell (Below.setCell (Below.setCell (Below.setCell (((Below.refl _ w).alloc (Nat.le_refl _) _ |>.alloc (by simp) _).trans (HB.out.mono (by simp; omega))) ?_ _) ?_ _) ?_ _) ?_ _) ?_ _ <;> simp
  have hO2 : Ow (((((w3.setCell ⟨w.heap.size + 1, 3, none⟩ (.slice CA m cc)).setCell ⟨w.heap.size, 0, none⟩ (.int .i64 x.op)).setCell ⟨w.heap.size, 1, none⟩ (.int .i64 x.n)).setCell ⟨w.heap.size, 2, none⟩ (.string x.s)).setCell ⟨w.heap.size, 3, none⟩ (.slice CA m cc)) (w.heap.size + 2) 3 1 CA m cc (iv x.l) := by
    refine ownsRow_setCell_below (ownsRow_setCell_below (ownsRow_setCell_below (ownsRow_setCell_below (ownsRow_setCell_below HO.out ?_ _) ?_ _) ?_ _) ?_ _) ?_ _ <;> simp
  clear q0 q1 q2 q3 z3 r0 r1 r2 r3 y0 y1 y2 y3 a0 a1 a2 a3 f0 f1 hh4
  generalize (((((w3.setCell ⟨w.heap.size + 1, 3, none⟩ (.slice CA m cc)).setCell ⟨w.heap.size, 0, none⟩ (.int .i64 x.op)).setCell ⟨w.heap.size, 1, none⟩ (.int .i64 x.n)).setCell ⟨w.heap.size, 2, none⟩ (.string x.s)).setCell ⟨w.heap.size, 3, none⟩ (.slice CA m cc)) = wf at *
  have k0 : wf.cell? ⟨w.heap.size, 0, none⟩ = some (.int .i64 x.op) := cell_of hk 0
  have k1 : wf.cell? ⟨w.heap.size, 1, none⟩ = some (.int .i64 x.n) := cell_of hk 1
  have k2 : wf.cell? ⟨w.heap.size, 2, none⟩ = some (.string x.s) := cell_of hk 2
  have k3 : wf.cell? ⟨w.heap.size, 3, none⟩ = some (.slice CA m cc) := cell_of hk 3
  refine bodyPost_ret (v := .tuple #[.agg #[.int .i64 x.op, .int .i64 x.n, .string x.s, .slice CA m cc], .int .i64 0]) (by simp [results, Tryd.results37, go_sem, k0, k1, k2, k3]) rfl ?_
  exact ⟨x, CA, cc, 0, by rw [HM.out], by rw [HM.out]; exact hO2.sl, ow_nums hO2, hB2, .inr ⟨rfl, by omega, by rw [Int.toNat_natCast]; exact HX.out⟩⟩
theorem node_ok (base b : Nat) (ns : List NN) (t : Int) (w : World) (h : AR w base b ns) :
    Calls Tryd.prog 37 #[.pointer (some ⟨b, 0, none⟩), .int .i64 t] w (NodeP ns t w) := by
  cases ht : hasF ns t
  · exact node_no base b ns t w h ht
  · have ht2 : 0 ≤ t ∧ t < (ns.length : Int) := by unfold hasF at ht; simpa using ht
    obtain ⟨j, rfl⟩ : ∃ j : Nat, t = (j : Int) := ⟨t.toNat, by omega⟩
    exact node_yes base b ns j _ w h (List.getElem?_eq_getElem (by omega))
end Go.Proofs.YthbfaledmoobjaaDoor
