/- A node laid behind the others of an arena. -/
import Derived.Test.YthbfaledmoobjaaDoorInj
import Derived.Test.YthbfaledmoobjaaDoorSmall
namespace Go.Proofs.YthbfaledmoobjaaDoor
open Go.RowKit

theorem sl_nums {w w' : World} {A : Option Addr} {n c : Nat} {l : List Int} (h : Sl w A n c (iv l)) (hn : Nums w A l) (hk : ∀ (k : Nat) (c : Array Value) (fz : Nat × Nat), w.heap[k]? = some (Obj.cells c 3 fz) → w'.heap[k]? = some (Obj.cells c 3 fz)) : Sl w' A n c (iv l) := by
  refine ⟨h.len, h.cap, h.top, ?_⟩
  rcases hn with rfl | ⟨ad, cur, fz, rfl, hh⟩
  · exact .inl rfl
  · rcases h.lies with e | ⟨ad2, e, hc⟩
    · exact .inl e
    · injection e with e
      subst e
      exact .inr ⟨_, rfl, fun j v hv => by
        rw [← hc j v hv]
        apply World.cell?_of_block
        rw [blk_add, hk _ _ _ hh, hh]⟩
theorem nums_nums {w w' : World} {A : Option Addr} {l : List Int} (hn : Nums w A l) (hk : ∀ (k : Nat) (c : Array Value) (fz : Nat × Nat), w.heap[k]? = some (Obj.cells c 3 fz) → w'.heap[k]? = some (Obj.cells c 3 fz)) : Nums w' A l := by
  rcases hn with h | ⟨a, cur, fz, e, h⟩
  · exact .inl h
  · exact .inr ⟨a, cur, fz, e, hk _ _ _ h⟩
theorem nodes_nums {base : Nat} {w w' : World} {xs : List Value} {ns : List NN} (h : Nodes base w xs ns) (hk : ∀ (k : Nat) (c : Array Value) (fz : Nat × Nat), w.heap[k]? = some (Obj.cells c 3 fz) → w'.heap[k]? = some (Obj.cells c 3 fz)) : Nodes base w' xs ns := fun j x hx => by
  obtain ⟨B, m, d, h0, h1, h2, h3, h4, h5⟩ := h j x hx
  exact ⟨B, m, d, h0, h1, h2, h3, sl_nums h4 h5.1 hk, nums_nums h5.1 hk, h5.2⟩
theorem Wn.push {ns : List NN} {F : List UInt8 → Option Int} (h : Wn ns F) {x : NN} (hm : May ns x) (hw : W64 x.op ∧ W64 x.n ∧ ∀ v ∈ x.l, W64 v) (hn : F (keyL x) = none) :
    Wn (ns ++ [x]) (fun k => if k = keyL x then some (ns.length : Int) else F k) := by
  have hg : ∀ j y, (ns ++ [x])[j]? = some y → (j < ns.length ∧ ns[j]? = some y) ∨ (j = ns.length ∧ y = x) := by
    intro j y hy
    by_cases hj : j < ns.length
    · rw [List.getElem?_append_left hj] at hy; exact .inl ⟨hj, hy⟩
    · rw [List.getElem?_append_right (by omega)] at hy
      have : j - ns.length = 0 := by
        have := (List.getElem?_eq_some_iff.1 hy).1
        simp at this; omega
      rw [this] at hy
      simp at hy
      exact .inr ⟨by omega, hy.symm⟩
  refine ⟨fun j y hy => ?_, fun k i => ?_, fun y hy => ?_⟩
  · rcases hg j y hy with ⟨hj, hy⟩ | ⟨rfl, rfl⟩
    · rw [List.take_append_of_le_length (by omega)]; exact h.may j y hy
    · rw [List.take_left]; exact hm
  · by_cases hk : k = keyL x
    · subst hk
      simp only [if_pos]
      constructor
      · intro e
        injection e with e
        exact ⟨ns.length, x, e.symm, by simp, rfl⟩
      · rintro ⟨j, y, rfl, hy, hky⟩
        rcases hg j y hy with ⟨hj, hy⟩ | ⟨rfl, rfl⟩
        · have := (h.key (keyL x) j).2 ⟨j, y, rfl, hy, hky⟩
          rw [hn] at this; cases this
        · rfl
    · simp only [if_neg hk]
      rw [h.key]
      constructor
      · rintro ⟨j, y, rfl, hy, hky⟩
        exact ⟨j, y, rfl, by rw [List.getElem?_append_left (List.getElem?_eq_some_iff.1 hy).1]; exact hy, hky⟩
      · rintro ⟨j, y, rfl, hy, hky⟩
        rcases hg j y hy with ⟨hj, hy⟩ | ⟨rfl, rfl⟩
        · exact ⟨j, y, rfl, hy, hky⟩
        · exact absurd hky.symm hk
  · rcases List.mem_append.1 hy with hy | hy
    · exact h.wf y hy
    · rw [List.mem_singleton] at hy; subst hy; exact hw
theorem Wn.found {ns : List NN} {F : List UInt8 → Option Int} (h : Wn ns F) {x : NN} {i : Int} (hf : F (keyL x) = some i) : 0 ≤ i ∧ ns[i.toNat]? = some x := by
  obtain ⟨j, y, rfl, hy, hk⟩ := (h.key _ _).1 hf
  rw [key_inj hk] at hy
  exact ⟨by omega, by rw [Int.toNat_natCast]; exact hy⟩
theorem Wn.absent {ns : List NN} {F : List UInt8 → Option Int} (h : Wn ns F) {x : NN} (hf : F (keyL x) = none) : x ∉ ns := by
  intro hx
  obtain ⟨j, hj⟩ := List.getElem?_of_mem hx
  have := (h.key (keyL x) j).2 ⟨j, x, rfl, hj, rfl⟩
  rw [hf] at this; cases this
theorem AR.push {w w6 w8 : World} {base b : Nat} {ns : List NN} {x : NN} {A : Option Addr} {c M k : Nat} {xs : List Value} {F : List UInt8 → Option Int} {A' CA : Option Addr} {c' m cc : Nat}
    (h1 : base ≤ b) (h2 : w.heap[b]? = some (.cells #[.slice A ns.length c, .map (some M)] 53)) (h3 : Ow w base 56 4 A ns.length c xs) (h4 : base ≤ M) (h5 : MS w M k F) (h6 : k ≤ ns.length) (h7 : Nodes base w xs ns) (h8 : Wn ns F)
    (hO : Ow w6 base 56 4 A' (ns.length + 1) c' (xs ++ [.int .i64 x.op, .int .i64 x.n, .string x.s, .slice CA m cc])) (hG : w.grownBy w6 (Value.slice A ns.length c).ownBlock)
    (hC : Sl w CA m cc (iv x.l)) (hCN : NumsB base w CA x.l)
    (hM : MS w8 M (k + 1) (fun q => if q = keyL x then some (ns.length : Int) else F q)) (ht : (w6.setCell ⟨b, 0, none⟩ (.slice A' (ns.length + 1) c')).mapTurned w8 M)
    (hmay : May ns x) (hwf : W64 x.op ∧ W64 x.n ∧ ∀ v ∈ x.l, W64 v) (hnew : F (keyL x) = none) : AR w8 base b (ns ++ [x]) ∧ Af base w w8 := by
  obtain ⟨es, clock, hMw⟩ := h5.isMap
  -- the row's own block
  have hrow : ∀ k, (Value.slice A ns.length c).ownBlock = some k → base ≤ k ∧ ∃ cur, w.heap[k]? = some (.cells cur 56 (0, 0)) := by
    intro k hk
    rcases h3.2 with ⟨hv, _⟩ | ⟨g, cap, cur, hv, hb, hh, _⟩
    · rw [hv] at hk; cases hk
    · rw [hv] at hk; injection hk with hk; subst hk; exact ⟨hb, cur, hh⟩
  have lt_of : ∀ {k : Nat} {o : Obj}, w.heap[k]? = some o → k < w.heap.size := fun h => (Array.getElem?_eq_some_iff.1 h).1
  have keep6 : ∀ (k : Nat) (o : Obj), w.heap[k]? = some o → (∀ cur, o ≠ .cells cur 56 (0, 0)) → w6.heap[k]? = some o := by
    intro k o hk ho
    rw [hG.block k (lt_of hk) (fun e => by obtain ⟨_, cur, hc⟩ := hrow k e.symm; rw [hk] at hc; injection hc with hc; exact ho cur hc)]
    exact hk
  have hb6 := keep6 b _ h2 (by intro cur e; injection e with _ e; cases e)
  have hM6 := keep6 M _ hMw (by intro cur e; cases e)
  have hbM : b ≠ M := fun e => by rw [e, hMw] at h2; injection h2 with h2; cases h2
  have hb7 : (w6.setCell ⟨b, 0, none⟩ (.slice A' (ns.length + 1) c')).heap[b]? = some (.cells #[.slice A' (ns.length + 1) c', .map (some M)] 53 (0, 0)) := by
    have := heap_setCell_same w6 b 0 _ 53 (.slice A' (ns.length + 1) c') hb6
    exact this
  have hg78 := ht.grown
  have keep8 : ∀ (k : Nat), k < w6.heap.size → k ≠ b → k ≠ M → w8.heap[k]? = w6.heap[k]? := by
    intro k hk h1 h2
    rw [hg78.block k (by rw [World.size_setCell]; exact hk) (fun e => h2 (by injection e))]
    exact heap_setCell_other _ _ _ _ h1
  have hkeep : ∀ (k : Nat) (o : Obj), w.heap[k]? = some o → Plain o → w8.heap[k]? = some o := by
    intro k o hk ho
    have e6 := keep6 k o hk (fun cur => ho.1 _ _)
    rw [keep8 k ((Array.getElem?_eq_some_iff.1 e6).1) (fun e => by rw [e, h2] at hk; injection hk with hk; exact ho.2.1 _ _ hk.symm) (fun e => by rw [e, hMw] at hk; injection hk with hk; exact ho.2.2 _ _ hk.symm)]
    exact e6
  have hnums : ∀ (k : Nat) (c : Array Value) (fz : Nat × Nat), w.heap[k]? = some (Obj.cells c 3 fz) → w8.heap[k]? = some (Obj.cells c 3 fz) := fun k c fz hk => hkeep k _ hk (Plain.cells (by decide) (by decide))
  have hbelow : Below base w w8 := by
    refine ⟨?_, ?_, ?_, ?_, ?_⟩
    · rw [hg78.os]; exact hG.os
    · rw [hg78.tape]; exact hG.tape
    · rw [hg78.output]; exact hG.output
    · have := hg78.size; rw [World.size_setCell] at this; exact Nat.le_trans hG.size this
    · intro k hk
      have hkw : k < w.heap.size := Nat.lt_of_lt_of_le hk (Nat.le_trans h1 (Nat.le_of_lt (lt_of h2)))
      rw [keep8 k (Nat.lt_of_lt_of_le hkw hG.size) (by omega) (by omega)]
      exact hG.block k hkw (fun e => by have := (hrow k e.symm).1; omega)
  have hO8 : Ow w8 base 56 4 A' (ns.length + 1) c' (xs ++ [.int .i64 x.op, .int .i64 x.n, .string x.s, .slice CA m cc]) := by
    refine ⟨hO.1, ?_⟩
    rcases hO.2 with h | ⟨g, cap, cur, hv, hb, hh, r⟩
    · exact .inl h
    · refine .inr ⟨g, cap, cur, hv, hb, ?_, r⟩
      rw [keep8 g ((Array.getElem?_eq_some_iff.1 hh).1) (fun e => by rw [e, hb6] at hh; injection hh with hh; injection hh with _ hh; cases hh) (fun e => by rw [e, hM6] at hh; injection hh with hh; cases hh)]
      exact hh
  have hb8 : w8.heap[b]? = some (.cells #[.slice A' (ns.length + 1) c', .map (some M)] 53 (0, 0)) := by
    rw [hg78.block b (by rw [World.size_setCell]; exact (Array.getElem?_eq_some_iff.1 hb6).1) (fun e => hbM (by injection e))]
    exact hb7
  refine ⟨⟨A', c', M, k + 1, _, _, h1, by rw [List.length_append]; exact hb8, by rw [List.length_append]; exact hO8, h4, hM, by rw [List.length_append]; simp; omega, ?_, h8.push hmay hwf hnew⟩, hbelow, hkeep⟩
  have hxl : xs.length = 4 * ns.length := by have := h3.1; omega
  intro j y hy
  by_cases hj : j < ns.length
  · rw [List.getElem?_append_left hj] at hy
    obtain ⟨B, m', d, e0, e1, e2, e3, e4, e5⟩ := nodes_nums h7 hnums j y hy
    exact ⟨B, m', d, by rw [List.getElem?_append_left (by omega)]; exact e0, by rw [List.getElem?_append_left (by omega)]; exact e1, by rw [List.getElem?_append_left (by omega)]; exact e2, by rw [List.getElem?_append_left (by omega)]; exact e3, e4, e5⟩
  · have hjn : j = ns.length := by
      have := (List.getElem?_eq_some_iff.1 hy).1
      simp at this; omega
    subst hjn
    rw [List.getElem?_append_right (Nat.le_refl _), Nat.sub_self] at hy
    simp at hy
    subst hy
    refine ⟨CA, m, cc, ?_, ?_, ?_, ?_, sl_nums hC hCN.1 hnums, nums_nums hCN.1 hnums, hCN.2⟩
    · rw [List.getElem?_append_right (by omega), show 4 * ns.length - xs.length = 0 by omega]; rfl
    · rw [List.getElem?_append_right (by omega), show 4 * ns.length + 1 - xs.length = 1 by omega]; rfl
    · rw [List.getElem?_append_right (by omega), show 4 * ns.length + 2 - xs.length = 2 by omega]; rfl
    · rw [List.getElem?_append_right (by omega), show 4 * ns.length + 3 - xs.length = 3 by omega]; rfl
end Go.Proofs.YthbfaledmoobjaaDoor
