/-
  Helper laws over any program, second part: copy into an owned row, make of n zero elements, cells of an owned row.
-/
import Derived.Test.YtjebmmmjjiomfaaBase
import Derived.Lib.AppendZeros
namespace Go.Proofs.Ytjebmmmjjiomfaa
open Go.RowKit

section
variable {w : World} {base : Nat} {e : TypeId} {A : Option Addr} {n c g : Nat} {xs : List Value}
theorem Ow.cell (h : Ow w base e 1 (some ⟨g, 0, none⟩) n c xs) {j : Nat} {u : Value} (hj : xs[j]? = some u) : w.cell? ⟨g, j, none⟩ = some u := by
  have hl : j < n := by
    have h1 := (List.getElem?_eq_some_iff.1 hj).1
    have := h.1
    omega
  have := World.ownsRow.cellAt h j (by omega)
  rw [this, hj]
theorem Ow.frz (h : Ow w base e 1 (some ⟨g, 0, none⟩) n c xs) (j : Nat) : w.frozen? ⟨g, j, none⟩ = false := World.ownsRow.frozenAt h j
theorem Ow.set_ (h : Ow w base e 1 (some ⟨g, 0, none⟩) n c xs) (j : Nat) (u : Value) : Ow (w.setCell ⟨g, j, none⟩ u) base e 1 (some ⟨g, 0, none⟩) n c (xs.set j u) :=
  (World.ownsRow.stored h j u).1
theorem Ow.blk (h : Ow w base e 1 (some ⟨g, 0, none⟩) n c xs) : base ≤ g := World.ownsRow.lt h g rfl |>.1
theorem Ow.bit (h : Ow w base e 1 (some ⟨g, 0, none⟩) n c xs) : g < w.heap.size := World.ownsRow.lt h g rfl |>.2
end

/-- copy into an owned row, from its head -/
theorem wp_copy {P : Program} {w : World} {o : Oper} {a : Act} {K : Act → World → Prop} {Q : Exit → Act → World → Prop} {d s : Operand} {dT sT : TypeId}
    {e : TypeId} {z : Value} {bytes : Nat} (E : Elem P dT e z 1 bytes)
    (ho : o.op = .call { callee := .builtin .copy, args := #[d, s], argTypes := #[dT, sT] })
    {base g n c0 : Nat} {xs : List Value} (hd : a.eval d = .slice (some ⟨g, 0, none⟩) n c0) (hown : Ow w base e 1 (some ⟨g, 0, none⟩) n c0 xs)
    {A : Option Addr} {m c : Nat} {news : List Value} (hs : a.eval s = .slice A m c) (hl : Lies w A news) (hm : news.length = m) (hmn : m ≤ n) (h1 : ∀ u ∈ news, u.oneCell' = true)
    (h : ∀ w', Ow w' base e 1 (some ⟨g, 0, none⟩) n c0 (news ++ xs.drop m) → w.grownBy w' (some g) → Below base w w' → K (a.put o.dst (.int .i64 (m : Int))) w') : o.wp P a w K Q := by
  subst hm
  have hinfo : (P.info? e).map (·.size) = some 1 := by
    obtain ⟨i, hi, _, hs, _⟩ := info_parts E.info
    rw [hi]; simp [hs]
  rcases Nat.eq_zero_or_pos news.length with h0 | h0
  · obtain rfl : news = [] := List.eq_nil_of_length_eq_zero h0
    have hrun := run_copy_none (P := P) w dT sT o.type e (some ⟨g, 0, none⟩) A n c0 0 c E.und hinfo (Nat.zero_min _)
    unfold Oper.wp
    simp only [List.length_nil] at hs
    simp only [execOp, ho, resolve, invoke, builtin, Sem.run_bind, Sem.run_pure, Result.andThen_ok, List.map_toArray, List.map_cons, List.map_nil, hd, hs, hrun]
    exact h w (by simpa using hown) (World.grownBy.refl _ _) (Below.refl _ _)
  · rcases hl with hl | ⟨ad, rfl, hc⟩
    · subst hl; simp at h0
    · have hb := hown.blk
      rcases hown.2 with ⟨hv, _⟩ | ⟨g', cap, cur, hv, hbg, hg, hnc, hcm, hcs, htake⟩
      · cases hv
      · injection hv with e1 e2 e3
        injection e1 with e1
        injection e1 with e1
        subst e1; subst e3
        have hlx : xs.length = n := by have := hown.1; omega
        have hrun := run_copy_row (P := P) w dT sT o.type e g 0 n c0 ad news.length c cur e news E.und hinfo hg (by show _ = min _ _; omega) hc (by omega) h1
        unfold Oper.wp
        simp only [execOp, ho, resolve, invoke, builtin, Sem.run_bind, Sem.run_pure, Result.andThen_ok, List.map_toArray, List.map_cons, List.map_nil, hd, hs, hrun]
        refine h _ ⟨by simp [hlx]; omega, .inr ⟨g, c0, _, rfl, hbg, setRow_heap w g cur _ e _ hg, hnc, hcm, ?_, ?_⟩⟩ ⟨rfl, rfl, rfl, by simp [World.setRow], fun k _ hk => setRow_other w g k _ (fun e => hk (by simp [e]))⟩ ⟨rfl, rfl, rfl, by simp [World.setRow], fun k hk => setRow_other w g k _ (by omega)⟩
        · simp; omega
        · simp only [List.take_zero, List.nil_append, Nat.zero_add, Nat.mul_one] at htake ⊢
          rw [← htake]
          rw [List.take_append, List.take_of_length_le hmn, List.drop_take]
theorem wpList_copy {P : Program} {w : World} {ops : Array Oper} {rest : List Oper} {o : Oper} {a : Act} {Q : Exit → Act → World → Prop} {d s : Operand} {dT sT : TypeId}
    {e : TypeId} {z : Value} {bytes : Nat} (E : Elem P dT e z 1 bytes) (hgd : o.guard = none)
    (ho : o.op = .call { callee := .builtin .copy, args := #[d, s], argTypes := #[dT, sT] })
    {base g n c0 : Nat} {xs : List Value} (hd : a.eval d = .slice (some ⟨g, 0, none⟩) n c0) (hown : Ow w base e 1 (some ⟨g, 0, none⟩) n c0 xs)
    {A : Option Addr} {m c : Nat} {news : List Value} (hs : a.eval s = .slice A m c) (hl : Lies w A news) (hm : news.length = m) (hmn : m ≤ n) (h1 : ∀ u ∈ news, u.oneCell' = true)
    (h : ∀ w', Ow w' base e 1 (some ⟨g, 0, none⟩) n c0 (news ++ xs.drop m) → w.grownBy w' (some g) → Below base w w' → wpList P ops Q rest (a.put o.dst (.int .i64 (m : Int))) w') : wpList P ops Q (o :: rest) a w :=
  wpList_plain hgd fun _ hK => wp_copy E ho hd hown hs hl hm hmn h1 fun w' h2 h3 h4 => hK _ _ (h w' h2 h3 h4)

/-- 'make([]T, n)' -/
theorem wpList_mk {P : Program} {w : World} {ops : Array Oper} {rest : List Oper} {o : Oper} {a : Act} {Q : Exit → Act → World → Prop} {l c : Operand} {t : TypeId}
    {e : TypeId} {z : Value} {bytes : Nat} (E : Elem P t e z 1 bytes) (hz1 : z.cells = #[z]) (hgd : o.guard = none) (hop : o.op = Op.makeSlice t l c)
    {kl kc : IntKind} {L C : Int} (n : Nat) (hl : a.eval l = .int kl L) (hc : a.eval c = .int kc C) (hL : L = (n : Int)) (hC : C = (n : Int)) (base : Nat) (hbase : base ≤ w.heap.size) (hb : bytes * n ≤ 281474976710656) (h63 : n ≤ maxLen)
    (h : ∀ w', Ow w' base e 1 (some ⟨w.heap.size, 0, none⟩) n n (List.replicate n z) → w.grownBy w' none → Below base w w' → wpList P ops Q rest (a.put o.dst (.slice (some ⟨w.heap.size, 0, none⟩) n n)) w') : wpList P ops Q (o :: rest) a w := by
  obtain ⟨i, hi, hz, hs, hby⟩ := info_parts E.info
  refine wpList_make_full w hgd l c t hop base e i z 1 E.und hi hz hs kl kc L C n hl hc hL hC (by rw [hby]; exact hb) h63 hbase fun w' h1 h2 => ?_
  have hz2 : (madeCells z.cells (n * 1)).toList = List.replicate n z := by rw [hz1, Nat.mul_one, toList_madeCells_one]
  rw [hz2] at h1
  exact h w' h1 h2 ((Below.refl _ _).grown h2 hbase (by simp))
/-- 's[:k]' of an owned row -/
theorem Ow.trim {w : World} {base : Nat} {e : TypeId} {A : Option Addr} {n c : Nat} {xs : List Value} (h : Ow w base e 1 A n c xs) {k : Nat} (hk : k ≤ n) : Ow w base e 1 A k c (xs.take k) := by
  have h1 := h.1
  refine ⟨by simp only [List.length_take]; omega, ?_⟩
  rcases h.2 with ⟨hv, h0⟩ | ⟨g, cap, cur, hv, h2, h3, h4, h5, h6, h7⟩
  · injection hv with e1 e2 e3
    left; subst e1; subst e3; exact ⟨by rw [show k = 0 by omega], by omega⟩
  · injection hv with e1 e2 e3
    subst e1; subst e3
    exact .inr ⟨g, c, cur, rfl, h2, h3, by omega, h5, h6, by rw [← h7, List.take_take]; congr 1; omega⟩
/-- 'append([]T(nil), make([]T, n)...)', as the translation has it -/
theorem wpList_zeros {P : Program} {w : World} {ops : Array Oper} {rest : List Oper} {o : Oper} {a : Act} {Q : Exit → Act → World → Prop} {s x : Operand} {t tn : TypeId}
    (base : Nat) {e : TypeId} {z : Value} {bytes : Nat} (E : Elem P t e z 1 bytes) (hz1 : z.cells = #[z]) {kn : IntKind} (htn : P.underlying tn = some (.int kn)) (hgd : o.guard = none)
    (ho : o.op = .call { callee := .builtin .append, args := #[s, x], argTypes := #[t, tn] }) (hs : a.eval s = .slice none 0 0) {k : IntKind} {N : Int} (n : Nat) (hx : a.eval x = .int k N) (hN : N = (n : Int)) (h0 : 0 < n)
    (h63 : n ≤ maxLen) (hb : n * bytes ≤ 281474976710656) (hbase : base ≤ w.heap.size)
    (h : ∀ c w', n ≤ c → Ow w' base e 1 (some ⟨w.heap.size, 0, none⟩) n c (List.replicate n z) → Below base w w' → wpList P ops Q rest (a.put o.dst (.slice (some ⟨w.heap.size, 0, none⟩) n c)) w') : wpList P ops Q (o :: rest) a w := by
  obtain ⟨i, hi, hz, hsz, hby⟩ := info_parts E.info
  subst hN
  have hm : n ≤ 9223372036854775807 := by simp only [maxLen] at h63; omega
  have hr := Lib.run_append_nil_zeros (P := P) w t tn o.type e i z k kn E.und htn hi hz n h0 (by omega) (by omega) (by rw [hby]; exact hb)
  refine Lib.wpList_append_run w hgd s x t tn ho _ _ hs hx _ _ hr (h _ _ (grownCap_ge w n 0 e) ?_ ?_)
  · have hge := grownCap_ge w n 0 e
    have hle := grownCap_le_maxLen w n 0 e h63
    have hzc : ∀ m, (Builtin.zeroCells z.cells m).toList = List.replicate m z := by
      intro m
      rw [hz1]
      apply List.ext_getElem?
      intro j
      by_cases hj : j < m <;> simp [Builtin.zeroCells, hj, Nat.mod_one]
    refine ⟨by simp, .inr ⟨w.heap.size, _, _, rfl, hbase, heap_alloc_new w.drew _, hge, hle, ?_, ?_⟩⟩
    · rw [Array.size_append, size_zeroCells, size_zeroCells, hz1]; simp; omega
    · rw [Array.toList_append, hzc, hzc, Nat.mul_one, List.take_append_of_le_length (by simp), List.take_of_length_le (by simp)]
  · exact ((Below.refl base w).drew).alloc hbase _
end Go.Proofs.Ytjebmmmjjiomfaa
