/- The walks of of, Text, List, All, Fresh and of the makers that lay out a row of parts. -/
import Derived.Test.YthbfaledmoobjaaDoorMake
namespace Go.Proofs.YthbfaledmoobjaaDoor
open Go.RowKit

theorem W64.zero : W64 0 := by unfold W64; omega
theorem MkP.shift {base b : Nat} {ns : List NN} {x : NN} {w W w' : World} {e : Ending} (h : MkP base b ns x W e w') (hA : Af base w W) : MkP base b ns x w e w' := by
  obtain ⟨t, er, ns', he, h1, h2, h3⟩ := h
  exact ⟨t, er, ns', he, h1, hA.trans h2, h3⟩
theorem AR.base_le {w : World} {base b : Nat} {ns : List NN} (h : AR w base b ns) : base ≤ w.heap.size := by
  have hb := h.bit
  obtain ⟨_, _, _, _, _, _, h1, _⟩ := h
  omega
theorem sl_row (w : World) (l : List Int) (hl : l.length ≤ maxLen) : Sl (w.alloc (.cells (iv l).toArray 3)) (some ⟨w.heap.size, 0, none⟩) l.length l.length (iv l) :=
  ⟨by rw [iv_length], Nat.le_refl _, hl, by have := lies_cells w (iv l).toArray 3; simpa using this⟩
theorem Af.row {base : Nat} {w : World} (h : base ≤ w.heap.size) (o : Obj) : Af base w (w.alloc o) := Af.of ((Below.refl _ w).alloc (Nat.le_refl _) o) h
def ofN (op : Int) (l : List Int) : NN := ⟨op, 0, ⟨#[]⟩, l⟩
set_option maxRecDepth 100000 in
theorem of_ok (base b : Nat) (ns : List NN) (op : Int) (A : Option Addr) (m d : Nat) (l : List Int) (w : World) (h : AR w base b ns) (hl : Sl w A m d (iv l)) (ho : W64 op) (hw : ∀ v ∈ l, W64 v) (hT : Tb base w) :
    Calls Tryd.prog 31 #[.pointer (some ⟨b, 0, none⟩), .int .i64 op, .slice A m d] w (MkP base b ns (ofN op l) w) := by
  have HM := Lib.hid (make_ok base b ns (ofN op l) A m d w h hl ⟨ho, W64.zero, hw⟩ hT)
  clear h hl hw hT
  go_enter Tryd.func31, Tryd.ntmps31
  go_wp2_with (go_at_call 32; refine HM.out.mono ?_; rintro e w' ⟨t, er, ns', rfl, hR, hA, hM⟩)
  go_ret2
  exact ⟨t, er, ns', rfl, hR, hA, hM⟩
set_option maxRecDepth 100000 in
theorem fresh_ok (base b : Nat) (ns : List NN) (n : Int) (w : World) (h : AR w base b ns) (hn : W64 n) (hT : Tb base w) :
    Calls Tryd.prog 20 #[.pointer (some ⟨b, 0, none⟩), .int .i64 n] w (MkP base b ns ⟨1, n, ⟨#[]⟩, []⟩ w) := by
  have HM := Lib.hid (make_ok base b ns ⟨1, n, ⟨#[]⟩, []⟩ none 0 0 w h (Sl.none w) ⟨by show W64 1; unfold W64; omega, hn, by simp⟩ hT)
  clear h hn hT
  go_enter Tryd.func20, Tryd.ntmps20
  go_wp2_with (go_at_call 32; refine HM.out.mono ?_; rintro e w' ⟨t, er, ns', rfl, hR, hA, hM⟩)
  go_ret2
  exact ⟨t, er, ns', rfl, hR, hA, hM⟩
set_option maxRecDepth 100000 in
theorem text_ok (base b : Nat) (ns : List NN) (s : ByteArray) (w : World) (h : AR w base b ns) (hT : Tb base w) :
    Calls Tryd.prog 33 #[.pointer (some ⟨b, 0, none⟩), .string s] w (MkP base b ns ⟨2, 0, s, []⟩ w) := by
  have HM := Lib.hid (make_ok base b ns ⟨2, 0, s, []⟩ none 0 0 w h (Sl.none w) ⟨by show W64 2; unfold W64; omega, W64.zero, by simp⟩ hT)
  clear h hT
  go_enter Tryd.func33, Tryd.ntmps33
  go_wp2_with (go_at_call 32; refine HM.out.mono ?_; rintro e w' ⟨t, er, ns', rfl, hR, hA, hM⟩)
  go_ret2
  exact ⟨t, er, ns', rfl, hR, hA, hM⟩
set_option maxRecDepth 100000 in
theorem list_ok (base b : Nat) (ns : List NN) (A : Option Addr) (m d : Nat) (l : List Int) (w : World) (h : AR w base b ns) (hl : Sl w A m d (iv l)) (hw : ∀ v ∈ l, W64 v) (hT : Tb base w) :
    Calls Tryd.prog 34 #[.pointer (some ⟨b, 0, none⟩), .slice A m d] w (MkP base b ns (ofN 3 l) w) := by
  have HM := Lib.hid (make_ok base b ns (ofN 3 l) A m d w h hl ⟨by show W64 3; unfold W64; omega, W64.zero, hw⟩ hT)
  clear h hl hw hT
  go_enter Tryd.func34, Tryd.ntmps34
  go_wp2_with (go_at_call 32; refine HM.out.mono ?_; rintro e w' ⟨t, er, ns', rfl, hR, hA, hM⟩)
  go_ret2
  exact ⟨t, er, ns', rfl, hR, hA, hM⟩
set_option maxRecDepth 100000 in
theorem all_ok (base b : Nat) (ns : List NN) (A : Option Addr) (m d : Nat) (l : List Int) (w : World) (h : AR w base b ns) (hl : Sl w A m d (iv l)) (hw : ∀ v ∈ l, W64 v) (hT : Tb base w) :
    Calls Tryd.prog 27 #[.pointer (some ⟨b, 0, none⟩), .slice A m d] w (MkP base b ns (ofN 3 l) w) := by
  have HM := Lib.hid (list_ok base b ns A m d l w h hl hw hT)
  clear h hl hw hT
  go_enter Tryd.func27, Tryd.ntmps27
  go_wp2_with (go_at_call 34; refine HM.out.mono ?_; rintro e w' ⟨t, er, ns', rfl, hR, hA, hM⟩)
  go_ret2
  exact ⟨t, er, ns', rfl, hR, hA, hM⟩
set_option maxRecDepth 100000 in
theorem public_ok (base b : Nat) (ns : List NN) (x : Int) (w : World) (h : AR w base b ns) (hx : W64 x) (hT : Tb base w) :
    Calls Tryd.prog 19 #[.pointer (some ⟨b, 0, none⟩), .int .i64 x] w (MkP base b ns (ofN 7 [x]) w) := by
  have hb := h.base_le
  have hmem : ∀ v ∈ ([x] : List Int), W64 v := by simp; exact hx
  have HM := Lib.hid (of_ok base b ns 7 (some ⟨w.heap.size, 0, none⟩) 1 1 [x] (w.alloc (.cells #[.int .i64 x] 3)) (h.alloc _) (sl_row w [x] (by simp [maxLen])) (by unfold W64; omega) hmem (hT.on ((Below.refl _ w).alloc hb _)))
  clear h hx hT hmem
  go_enter Tryd.func19, Tryd.ntmps19
  go_wp2_with (go_at_call 31; refine HM.out.mono ?_; rintro e w' ⟨t, er, ns', rfl, hR, hA, hM⟩)
  go_ret2
  exact ⟨t, er, ns', rfl, hR, (Af.row hb _).trans hA, hM⟩
set_option maxRecDepth 100000 in
theorem blind_ok (base b : Nat) (ns : List NN) (x y : Int) (w : World) (h : AR w base b ns) (hx : W64 x) (hy : W64 y) (hT : Tb base w) :
    Calls Tryd.prog 16 #[.pointer (some ⟨b, 0, none⟩), .int .i64 x, .int .i64 y] w (MkP base b ns (ofN 12 [x, y]) w) := by
  have hb := h.base_le
  have hmem : ∀ v ∈ ([x, y] : List Int), W64 v := by simp; exact ⟨hx, hy⟩
  have HM := Lib.hid (of_ok base b ns 12 (some ⟨w.heap.size, 0, none⟩) 2 2 [x, y] (w.alloc (.cells #[.int .i64 x, .int .i64 y] 3)) (h.alloc _) (sl_row w [x, y] (by simp [maxLen])) (by unfold W64; omega) hmem (hT.on ((Below.refl _ w).alloc hb _)))
  clear h hx hy hT hmem
  go_enter Tryd.func16, Tryd.ntmps16
  go_wp2_with (go_at_call 31; refine HM.out.mono ?_; rintro e w' ⟨t, er, ns', rfl, hR, hA, hM⟩)
  go_ret2
  exact ⟨t, er, ns', rfl, hR, (Af.row hb _).trans hA, hM⟩
set_option maxRecDepth 100000 in
theorem sign_ok (base b : Nat) (ns : List NN) (x y : Int) (w : World) (h : AR w base b ns) (hx : W64 x) (hy : W64 y) (hT : Tb base w) :
    Calls Tryd.prog 17 #[.pointer (some ⟨b, 0, none⟩), .int .i64 x, .int .i64 y] w (MkP base b ns (ofN 10 [x, y]) w) := by
  have hb := h.base_le
  have hmem : ∀ v ∈ ([x, y] : List Int), W64 v := by simp; exact ⟨hx, hy⟩
  have HM := Lib.hid (of_ok base b ns 10 (some ⟨w.heap.size, 0, none⟩) 2 2 [x, y] (w.alloc (.cells #[.int .i64 x, .int .i64 y] 3)) (h.alloc _) (sl_row w [x, y] (by simp [maxLen])) (by unfold W64; omega) hmem (hT.on ((Below.refl _ w).alloc hb _)))
  clear h hx hy hT hmem
  go_enter Tryd.func17, Tryd.ntmps17
  go_wp2_with (go_at_call 31; refine HM.out.mono ?_; rintro e w' ⟨t, er, ns', rfl, hR, hA, hM⟩)
  go_ret2
  exact ⟨t, er, ns', rfl, hR, (Af.row hb _).trans hA, hM⟩
set_option maxRecDepth 100000 in
theorem tag_ok (base b : Nat) (ns : List NN) (x y : Int) (w : World) (h : AR w base b ns) (hx : W64 x) (hy : W64 y) (hT : Tb base w) :
    Calls Tryd.prog 23 #[.pointer (some ⟨b, 0, none⟩), .int .i64 x, .int .i64 y] w (MkP base b ns (ofN 11 [x, y]) w) := by
  have hb := h.base_le
  have hmem : ∀ v ∈ ([x, y] : List Int), W64 v := by simp; exact ⟨hx, hy⟩
  have HM := Lib.hid (of_ok base b ns 11 (some ⟨w.heap.size, 0, none⟩) 2 2 [x, y] (w.alloc (.cells #[.int .i64 x, .int .i64 y] 3)) (h.alloc _) (sl_row w [x, y] (by simp [maxLen])) (by unfold W64; omega) hmem (hT.on ((Below.refl _ w).alloc hb _)))
  clear h hx hy hT hmem
  go_enter Tryd.func23, Tryd.ntmps23
  go_wp2_with (go_at_call 31; refine HM.out.mono ?_; rintro e w' ⟨t, er, ns', rfl, hR, hA, hM⟩)
  go_ret2
  exact ⟨t, er, ns', rfl, hR, (Af.row hb _).trans hA, hM⟩
set_option maxRecDepth 100000 in
theorem extract_ok (base b : Nat) (ns : List NN) (x y : Int) (w : World) (h : AR w base b ns) (hx : W64 x) (hy : W64 y) (hT : Tb base w) :
    Calls Tryd.prog 25 #[.pointer (some ⟨b, 0, none⟩), .int .i64 x, .int .i64 y] w (MkP base b ns (ofN 5 [x, y]) w) := by
  have hb := h.base_le
  have hmem : ∀ v ∈ ([x, y] : List Int), W64 v := by simp; exact ⟨hx, hy⟩
  have HM := Lib.hid (of_ok base b ns 5 (some ⟨w.heap.size, 0, none⟩) 2 2 [x, y] (w.alloc (.cells #[.int .i64 x, .int .i64 y] 3)) (h.alloc _) (sl_row w [x, y] (by simp [maxLen])) (by unfold W64; omega) hmem (hT.on ((Below.refl _ w).alloc hb _)))
  clear h hx hy hT hmem
  go_enter Tryd.func25, Tryd.ntmps25
  go_wp2_with (go_at_call 31; refine HM.out.mono ?_; rintro e w' ⟨t, er, ns', rfl, hR, hA, hM⟩)
  go_ret2
  exact ⟨t, er, ns', rfl, hR, (Af.row hb _).trans hA, hM⟩
set_option maxRecDepth 100000 in
theorem lock_ok (base b : Nat) (ns : List NN) (x y z u : Int) (w : World) (h : AR w base b ns) (hx : W64 x) (hy : W64 y) (hz : W64 z) (hu : W64 u) (hT : Tb base w) :
    Calls Tryd.prog 22 #[.pointer (some ⟨b, 0, none⟩), .int .i64 x, .int .i64 y, .int .i64 z, .int .i64 u] w (MkP base b ns (ofN 9 [x, y, z, u]) w) := by
  have hb := h.base_le
  have hmem : ∀ v ∈ ([x, y, z, u] : List Int), W64 v := by simp; exact ⟨hx, hy, hz, hu⟩
  have HM := Lib.hid (of_ok base b ns 9 (some ⟨w.heap.size, 0, none⟩) 4 4 [x, y, z, u] (w.alloc (.cells #[.int .i64 x, .int .i64 y, .int .i64 z, .int .i64 u] 3)) (h.alloc _) (sl_row w [x, y, z, u] (by simp [maxLen])) (by unfold W64; omega) hmem (hT.on ((Below.refl _ w).alloc hb _)))
  clear h hx hy hz hu hT hmem
  go_enter Tryd.func22, Tryd.ntmps22
  go_wp2_with (go_at_call 31; refine HM.out.mono ?_; rintro e w' ⟨t, er, ns', rfl, hR, hA, hM⟩)
  go_ret2
  exact ⟨t, er, ns', rfl, hR, (Af.row hb _).trans hA, hM⟩
end Go.Proofs.YthbfaledmoobjaaDoor
