/- The walk of slices.Insert(s, 0, x), s a row of the call's own, not empty. -/
import Derived.Shelf.Spec.SlicesInsert
import Derived.Lib.AppendZerosOnto
import Derived.Test.YtjebmmmjjiomfaaTakeB
namespace Go.Proofs.Ytjebmmmjjiomfaa
open Go.RowKit

variable {w : World} {base : Nat} {e : TypeId} {A : Option Addr} {n c g : Nat} {xs : List Value}
theorem Ow.row (h : Ow w base e 1 A n c xs) (hn : 0 < n) : ∃ g cur, A = some ⟨g, 0, none⟩ ∧ base ≤ g ∧ g < w.heap.size ∧ w.heap[g]? = some (.cells cur e (0, 0)) ∧ n ≤ c ∧ c ≤ maxLen ∧ cur.size = c ∧ cur.toList.take n = xs := by
  rcases h.2 with ⟨hv, h0⟩ | ⟨g, cap, cur, hv, h2, h3, h4, h5, h6, h7⟩
  · omega
  · injection hv with e1 e2 e3
    subst e1; subst e3
    refine ⟨g, cur, rfl, h2, ?_, h3, h4, h5, by omega, by rw [← h7, Nat.mul_one]⟩
    exact (Array.getElem?_eq_some_iff.1 h3).1
/-- 's[:m]' over the spare cells -/
theorem Ow.ext (h : Ow w base e 1 (some ⟨g, 0, none⟩) n c xs) (hn : 0 < n) {m : Nat} (h1 : n ≤ m) (h2 : m ≤ c) : ∃ ys, Ow w base e 1 (some ⟨g, 0, none⟩) m c ys ∧ ys.take n = xs := by
  obtain ⟨g', cur, he, hb, hg, hh, hnc, hcm, hcs, ht⟩ := h.row hn
  injection he with he; injection he with he; subst he
  refine ⟨cur.toList.take m, ⟨by simp; omega, .inr ⟨g, c, cur, rfl, hb, hh, h2, hcm, by omega, by rw [Nat.mul_one]⟩⟩, by rw [List.take_take, Nat.min_eq_left h1, ht]⟩

/-- copy within an owned row, one place on -/
theorem run_shift {P : Program} {w : World} {dT sT e : TypeId} {z : Value} {bytes : Nat} (E : Elem P dT e z 1 bytes) {base g n c : Nat} {xs : List Value}
    (h : Ow w base e 1 (some ⟨g, 0, none⟩) n c xs) (hn : 0 < n) (hc : n + 1 ≤ c) (h1 : ∀ u ∈ xs, u.oneCell' = true) :
    ∃ w' x, (∀ ty d1 s1, (Builtin.copy_ #[dT, sT] ty #[.slice (some ⟨g, 1, none⟩) n d1, .slice (some ⟨g, 0, none⟩) (n + 1) s1]).run P w.drew = .ok (.int .i64 (n : Int)) w') ∧ Ow w' base e 1 (some ⟨g, 0, none⟩) (n + 1) c (x :: xs) ∧ Below base w w' ∧ w.grownBy w' (some g) := by
  have hinfo : (P.info? e).map (·.size) = some 1 := by
    obtain ⟨i, hi, _, hs, _⟩ := info_parts E.info
    rw [hi]; simp [hs]
  obtain ⟨g', cur, he, hb, hg, hh, hnc, hcm, hcs, ht⟩ := h.row hn
  injection he with he; injection he with he; subst he
  have hxl : xs.length = n := by have := h.1; omega
  obtain ⟨x, r, hcur⟩ : ∃ x r, cur.toList = x :: r := by
    cases hq : cur.toList with
    | nil => have := congrArg List.length hq; rw [Array.length_toList, List.length_nil] at this; omega
    | cons x r => exact ⟨x, r, rfl⟩
  have hrun := fun ty d1 s1 => run_copy_row (P := P) w.drew dT sT ty e g 1 n d1 ⟨g, 0, none⟩ (n + 1) s1 cur e xs E.und hinfo hh (by rw [hxl]; exact (Nat.min_eq_right (by omega)).symm) (fun j v hj => h.lies.elim (fun e => by rw [e] at hj; cases hj) fun ⟨ad, ha, hc⟩ => by injection ha with ha; subst ha; exact hc j v hj) (by rw [hxl]; omega) h1
  refine ⟨_, x, fun ty d1 s1 => (hrun ty d1 s1).trans (by rw [hxl]; rfl), ⟨by simp [hxl], .inr ⟨g, c, _, rfl, hb, setRow_heap w.drew g cur _ e _ hh, hc, hcm, ?_, ?_⟩⟩, ⟨rfl, rfl, rfl, by simp [World.setRow], fun k hk => setRow_other w.drew g k _ (by omega)⟩, ⟨rfl, rfl, rfl, by simp [World.setRow], fun k _ hk => setRow_other w.drew g k _ (fun e => hk (by simp [e]))⟩⟩
  · simp [hxl]; omega
  · rw [hcur]
    simp [hxl]


theorem shape_of (w : World) {g : Nat} (cur : Array Value) (e : TypeId) (fz : Nat × Nat) (hg : w.heap[g]? = some (.cells cur e fz)) : w.shape? g = some (e, cur.size) := by
  unfold World.shape?; rw [hg]
theorem heap_old (w : World) (o : Obj) {g : Nat} {x : Obj} (hg : w.heap[g]? = some x) : (w.alloc o).heap[g]? = some x := by
  have hgl : g < w.heap.size := (Array.getElem?_eq_some_iff.1 hg).1
  show (w.heap.push o)[g]? = _
  rw [Array.getElem?_push, if_neg (by omega)]; exact hg
theorem overlaps_no (w : World) {g : Nat} (cur : Array Value) (hg : w.heap[g]? = some (.cells cur 5 (0, 0))) (h0 : 0 < cur.size) (lb cb : Nat) :
    (callFunc 92 #[.slice (some ⟨w.heap.size, 0, none⟩) 1 1, .slice (some ⟨g, 1, none⟩) lb cb]).run Try.prog (w.alloc (.cells #[.int .u8 1] 5)) = .ok (.value (.bool false)) (w.alloc (.cells #[.int .u8 1] 5)) := by
  have hgl : g < w.heap.size := (Array.getElem?_eq_some_iff.1 hg).1
  rw [run_callFunc_extern Try.func92 (by kernel_rfl) (by kernel_rfl) (by kernel_rfl) (e := Extern.SlicesOverlaps.overlaps #[23, 23] #[4]) (by kernel_rfl),
    Lib.run_overlaps_apart _ 23 4 5 Try.underlying23 1 (fun _ => by kernel_rfl) ⟨w.heap.size, 0, none⟩ ⟨g, 1, none⟩ 1 1 lb cb (by show w.heap.size ≠ g; omega) 5 5 1 cur.size (shape_of _ #[.int .u8 1] 5 (0, 0) (heap_alloc_new w _)) (shape_of _ cur 5 (0, 0) (heap_old w _ hg)) (by omega) (World.frozen?_alloc_new _ _ _ _) (World.frozen?_alloc_new _ _ _ _)]
  rfl

set_option maxRecDepth 100000 in
set_option maxHeartbeats 1000000 in
theorem insert_room (base g n c : Nat) (l : List UInt8) (w : World) (hO : Ow w base 5 1 (some ⟨g, 0, none⟩) n c (bv l)) (hn : 0 < n) (hc : n + 1 ≤ c) :
    Calls Try.prog 58 #[.slice (some ⟨g, 0, none⟩) n c, .int .i64 0, .slice (some ⟨w.heap.size, 0, none⟩) 1 1] (w.alloc (.cells #[.int .u8 1] 5)) fun e w' =>
      ∃ A' c', e = .returned (.slice A' (n + 1) c') ∧ Ow w' base 5 1 A' (n + 1) c' (bv (1 :: l)) ∧ Below base (w.alloc (.cells #[.int .u8 1] 5)) w' := by
  obtain ⟨g', cur, he, hbg, hgl, hh, hnc, hcm, hcs, ht⟩ := hO.row hn
  injection he with he; injection he with he; subst he
  have hov := overlaps_no w cur hh (by omega)
  obtain ⟨W, x, hcp, hO2, hB2, hG2⟩ := run_shift (sT := 23) E23 (hO.alloc (.cells #[.int .u8 1] 5)) hn hc (bv_one _)
  have hl1 : Lies W (some ⟨w.heap.size, 0, none⟩) (bv [1]) := by
    refine .inr ⟨_, rfl, fun j u hu => ?_⟩
    have e1 : W.heap[w.heap.size]? = (w.alloc (.cells #[.int .u8 1] 5)).heap[w.heap.size]? := hG2.block _ (by simp) (by simp; omega)
    have := (lies_new w (.int .u8 1) 5)
    rcases this with e | ⟨ad, ha, hc⟩
    · cases e
    · injection ha with ha; subst ha
      rw [← hc j u hu]
      unfold World.cell?
      rw [blk_add, e1]
  have HL := Lib.hid hl1; have HO2 := Lib.hid hO2; have HB2 := Lib.hid hB2
  clear hl1 hG2 hO2 hB2 hh hcs ht hO
  unfold maxLen at hcm
  go_enter Try.func58, Try.ntmps58
  go_wp2_with (simp only [hov])
  have w1 : IntKind.i64.wrap 1 = 1 := by decide
  have mixed : Try.prog.follows Departure.mixedOrders = true := by kernel_rfl
  have w2 : (1 : Int) ≤ (n : Int) + 1 := by omega
  have w3 : (0 : Int) ≤ (n : Int) + 1 := by omega
  have b1 : ¬ (c = 1) := by omega
  have b2 : ¬ (c = 0) := by omega
  have b3 : n + 1 - 1 = n := by omega
  go_region_law_o (refine step_copy_runI rfl _ _ 23 23 rfl _ _ (by simp [Act.eval, Act.put]) (by simp [Act.eval, Act.put]) (hcp _ _ _) ?_)
  go_wp2_with (with_reducible refine wpList_copy (o := ⟨some 82, _, _, _, _, _⟩) (sT := 23) E23 rfl rfl (by with_unfolding_all rfl) HO2.out (by with_unfolding_all rfl) HL.out (show (bv [1]).length = 1 from rfl) (Nat.le_add_left 1 n) (bv_one _) ?_; intro w3 hO3 hG3 hB3)
  go_ret
  exact ⟨_, c, rfl, hO3, HB2.out.trans hB3⟩

/-- copy into an owned row, from its second place on -/
theorem run_onto {P : Program} {w : World} {dT sT e : TypeId} {z : Value} {bytes : Nat} (E : Elem P dT e z 1 bytes) {base g n c : Nat} {x : Value} {ys : List Value}
    (h : Ow w base e 1 (some ⟨g, 0, none⟩) (n + 1) c (x :: ys)) (hn : 0 < n) {ad : Addr} {xs : List Value} (hl : Lies w (some ad) xs) (hx : xs.length = n) (h1 : ∀ u ∈ xs, u.oneCell' = true) :
    ∃ w', (∀ ty d1 s1, (Builtin.copy_ #[dT, sT] ty #[.slice (some ⟨g, 1, none⟩) n d1, .slice (some ad) n s1]).run P w.drew = .ok (.int .i64 (n : Int)) w') ∧ Ow w' base e 1 (some ⟨g, 0, none⟩) (n + 1) c (x :: xs) ∧ Below base w w' := by
  have hinfo : (P.info? e).map (·.size) = some 1 := by
    obtain ⟨i, hi, _, hs, _⟩ := info_parts E.info
    rw [hi]; simp [hs]
  obtain ⟨g', cur, he, hb, hg, hh, hnc, hcm, hcs, ht⟩ := h.row (by omega)
  injection he with he; injection he with he; subst he
  obtain ⟨x', r, hcur⟩ : ∃ x r, cur.toList = x :: r := by
    cases hq : cur.toList with
    | nil => have := congrArg List.length hq; rw [Array.length_toList, List.length_nil] at this; omega
    | cons x r => exact ⟨x, r, rfl⟩
  have hxx : x' = x := by rw [hcur] at ht; simp at ht; exact ht.1
  have hrun := fun ty d1 s1 => run_copy_row (P := P) w.drew dT sT ty e g 1 n d1 ad n s1 cur e xs E.und hinfo hh (by rw [hx]; exact (Nat.min_self n).symm) (fun j v hj => hl.elim (fun e => by rw [e] at hj; cases hj) fun ⟨ad', ha, hc⟩ => by injection ha with ha; subst ha; exact hc j v hj) (by rw [hx]; omega) h1
  refine ⟨_, fun ty d1 s1 => (hrun ty d1 s1).trans (by rw [hx]; rfl), ⟨by simp [hx], .inr ⟨g, c, _, rfl, hb, setRow_heap w.drew g cur _ e _ hh, hnc, hcm, ?_, ?_⟩⟩, ⟨rfl, rfl, rfl, by simp [World.setRow], fun k hk => setRow_other w.drew g k _ (by omega)⟩⟩
  · simp [hx]; omega
  · rw [hcur]
    simp [hx, hxx]
/-- 'append(s[:0], make([]T, n)...)' where there is no room -/
theorem wpList_zeros0 {P : Program} {w : World} {ops : Array Oper} {rest : List Oper} {o : Oper} {a : Act} {Q : Exit → Act → World → Prop} {s x : Operand} {t tn : TypeId}
    (base : Nat) {e : TypeId} {z : Value} {bytes : Nat} (E : Elem P t e z 1 bytes) (hz1 : z.cells = #[z]) {kn : IntKind} (htn : P.underlying tn = some (.int kn)) (hgd : o.guard = none)
    (ho : o.op = .call { callee := .builtin .append, args := #[s, x], argTypes := #[t, tn] }) {ad : Addr} {c0 : Nat} (hs : a.eval s = .slice (some ad) 0 c0) {k : IntKind} {N : Int} (n : Nat) (hx : a.eval x = .int k N) (hN : N = (n : Int)) (h0 : 0 < n) (hroom : c0 < n)
    (h63 : n ≤ maxLen) (hb : n * bytes ≤ 140737488355328) (hbase : base ≤ w.heap.size)
    (h : ∀ c w', n ≤ c → Ow w' base e 1 (some ⟨w.heap.size, 0, none⟩) n c (List.replicate n z) → Below w.heap.size w w' → wpList P ops Q rest (a.put o.dst (.slice (some ⟨w.heap.size, 0, none⟩) n c)) w') : wpList P ops Q (o :: rest) a w := by
  obtain ⟨i, hi, hz, hsz, hby⟩ := info_parts E.info
  subst hN
  have hm : n ≤ 9223372036854775807 := by simp only [maxLen] at h63; omega
  have hold : (Builtin.firstCells i.size 0 (.slice (some ad) 0 c0)).run P w.drew = .ok ([] : List Value).toArray w.drew := by
    rw [hsz]
    exact run_firstCells_some w.drew 1 0 ad 0 c0 [] (by simp) (fun j v hj => by cases hj)
  have hr := Lib.run_append_grow_zeros (P := P) w t tn o.type e i z k kn E.und htn hi hz (some ad) 0 c0 [] hold n h0 (by omega) (by omega) (by omega) (by rw [hby]; omega) (by rw [hby, Nat.zero_add]; exact growslice_fits hroom hb)
  simp only [Nat.zero_add] at hr
  refine Lib.wpList_append_run w hgd s x t tn ho _ _ hs hx _ _ hr (h _ _ (grownCap_ge w n c0 e) ?_ ?_)
  · have hge := grownCap_ge w n c0 e
    have hle := grownCap_le_maxLen w n c0 e h63
    have hzc : ∀ m, (Builtin.zeroCells z.cells m).toList = List.replicate m z := by
      intro m
      rw [hz1]
      apply List.ext_getElem?
      intro j
      by_cases hj : j < m <;> simp [Builtin.zeroCells, hj, Nat.mod_one]
    refine ⟨by simp, .inr ⟨w.heap.size, _, _, rfl, hbase, heap_alloc_new w.drew _, hge, hle, ?_, ?_⟩⟩
    · rw [Array.size_append, Array.size_append, size_zeroCells, size_zeroCells, hz1]; simp; omega
    · rw [Array.toList_append, Array.toList_append, hzc, hzc, Nat.mul_one, List.toList_toArray, List.nil_append, List.take_append_of_le_length (by simp), List.take_of_length_le (by simp)]
  · exact ((Below.refl _ w).drew).alloc (Nat.le_refl _) _

set_option maxRecDepth 100000 in
set_option maxHeartbeats 1000000 in
theorem insert_grow (base g n c : Nat) (l : List UInt8) (w : World) (hO : Ow w base 5 1 (some ⟨g, 0, none⟩) n c (bv l)) (hn : 0 < n) (hnc : n ≤ c) (hc : c < n + 1) (hbig : Hid (n + 1 ≤ 140737488355328)) (hbase : base ≤ w.heap.size) :
    Calls Try.prog 58 #[.slice (some ⟨g, 0, none⟩) n c, .int .i64 0, .slice (some ⟨w.heap.size, 0, none⟩) 1 1] (w.alloc (.cells #[.int .u8 1] 5)) fun e w' =>
      ∃ A' c', e = .returned (.slice A' (n + 1) c') ∧ Ow w' base 5 1 A' (n + 1) c' (bv (1 :: l)) ∧ Below base (w.alloc (.cells #[.int .u8 1] 5)) w' := by
  have hlen := hO.1; rw [bv_length, Nat.mul_one] at hlen
  have HLEN := Lib.hid hlen; clear hlen
  have HO := Lib.hid hO; clear hO
  have hc1 : (c : Int) < (n : Int) + 1 := by omega
  have hcm : n + 1 ≤ 2 ^ 63 - 1 := by have := hbig.out; omega
  go_enter Try.func58, Try.ntmps58
  go_wp2_with (first
    | (with_reducible refine wpList_zeros0 (o := ⟨some 40, _, _, _, _, _⟩) (w.heap.size + 1) E23 rfl Try.underlying3 rfl (by with_unfolding_all rfl) (by with_unfolding_all rfl) (n + 1) (by with_unfolding_all rfl) (by omega) (by omega) hc (by have := hbig.out; unfold maxLen; omega) (by have := hbig.out; omega) (by simp) ?_; intro c3 w3 hc3 hO3 hB3; rw [World.size_alloc] at hO3 hB3)
    | (with_reducible refine wpList_copy (o := ⟨some 45, _, _, _, _, _⟩) (sT := 23) E23 rfl rfl (by with_unfolding_all rfl) hO3 (by with_unfolding_all rfl) (show Lies w3 (some ⟨w.heap.size, 0, none⟩) (bv [1]) from (lies_new w (.int .u8 1) 5).below (by rw [World.size_alloc]; exact hB3)) (show (bv [1]).length = 1 from rfl) (Nat.le_add_left 1 n) (bv_one _) ?_; intro w4 hO4 hG4 hB4))
  have hd : (List.replicate (n + 1) (Value.int .u8 0)).drop 1 = List.replicate n (.int .u8 0) := by simp
  rw [hd] at hO4
  have hB : Below w.heap.size w w4 := (nxa (Below.refl _ w) (.cells #[.int .u8 1] 5)).trans ((hB3.trans hB4).mono (Nat.le_succ _))
  have hlg := (HO.out.below hB).lies
  obtain ⟨W, hcp, hO2, hB2⟩ := run_onto (sT := 23) E23 (x := .int .u8 1) (ys := List.replicate n (.int .u8 0)) hO4 hn hlg (by rw [bv_length, HLEN.out]) (bv_one _)
  have HO2 := Lib.hid hO2; have HB2 := Lib.hid hB2; have HB := Lib.hid (hB3.trans hB4)
  clear hO2 hB2 hlg hO4 hG4 hB3 hB4 hO3 hd hB
  have w1 : IntKind.i64.wrap 1 = 1 := by decide
  have mixed : Try.prog.follows Departure.mixedOrders = true := by kernel_rfl
  have v2 : (1 : Int) ≤ (n : Int) + 1 := by omega
  have v3 : (0 : Int) ≤ (n : Int) + 1 := by omega
  have b1 : ¬ (c3 = 1) := by omega
  have b2 : ¬ (c = 0) := by omega
  have b3 : n + 1 - 1 = n := by omega
  go_region_law_o (refine step_copy_runI rfl _ _ 23 23 rfl _ _ (by simp [Act.eval, Act.put]) (by simp [Act.eval, Act.put]) (hcp _ _ _) ?_)
  go_wp2_with fail
  go_ret
  exact ⟨_, c3, rfl, HO2.out.mono (by omega), (HB.out.trans HB2.out).mono (by omega)⟩

theorem insert0 (base : Nat) (A : Option Addr) (n c : Nat) (l : List UInt8) (w : World) (hO : Ow w base 5 1 A n c (bv l)) (hn : 0 < n) (hbig : Hid (n + 1 ≤ 140737488355328)) (hbase : base ≤ w.heap.size) :
    Calls Try.prog 58 #[.slice A n c, .int .i64 0, .slice (some ⟨w.heap.size, 0, none⟩) 1 1] (w.alloc (.cells #[.int .u8 1] 5)) fun e w' =>
      ∃ A' c', e = .returned (.slice A' (n + 1) c') ∧ Ow w' base 5 1 A' (n + 1) c' (bv (1 :: l)) ∧ Below base (w.alloc (.cells #[.int .u8 1] 5)) w' := by
  obtain ⟨g, cur, rfl, _, _, _, hnc, _⟩ := hO.row hn
  by_cases h : n + 1 ≤ c
  · exact insert_room base g n c l w hO hn h
  · exact insert_grow base g n c l w hO hn hnc (by omega) hbig hbase
end Go.Proofs.Ytjebmmmjjiomfaa
