/- The walks of slices.Chunk at steps and of the function that it hands back, inside a fence. -/
import Derived.RangeFuncNested
import Derived.RangeFuncBound
import Derived.RangeFuncCalls
import Derived.RangeFuncLeaves
import Derived.RangeFuncBox
import Derived.Shelf.Abstract
import Derived.Shelf.RegionOpen
import Derived.OwnWalkIn
import Derived.TacticsInMore
import Derived.LoopNIn
import Derived.LoopIn
import Derived.Test.YtejoiamdhjhjhaaSpliceP
namespace Go.Proofs.Ytejoiamdhjhjhaa
open Go.RowKit Go.Shelf
attribute [local go_sem] Oper.semAt_some

/-- the number of a part -/
abbrev PK (n m : Nat) := { k : Nat // k * m < n }
def pe (n m k : Nat) : Nat := min m (n - k * m)
def encP (ad : Addr) (n m : Nat) (x : PK n m) : Array Value := #[.slice (some (ad.add (x.1 * m * 3))) (pe n m x.1) (pe n m x.1)]
/-- what a round keeps: what lay below, and the two boxes -/
def KpC (n₀ c1 c2 : Nat) (v1 v2 : Value) (W W' : World) : Prop := Below n₀ W W' ∧ (Boxed W c1 22 v1 → Boxed W' c1 22 v1) ∧ (Boxed W c2 3 v2 → Boxed W' c2 3 v2)

set_option maxRecDepth 100000 in
set_option maxHeartbeats 2000000 in
theorem chunk1_in (F : Fence) (N : Nat) (h35 : F.fn 35) (hro : F.round = none) (hN : 1 ≤ N) (l c1 c2 n₀ : Nat) (A : Option Addr) (ad : Addr) (n c m : Nat) (hA : 0 < n → A = some ad) (hn : n ≤ 1000) (hnc : n ≤ c) (hm : 1 ≤ m) (hm2 : m ≤ 9223372036854775807) (J Jx : List (PK n m) → World → Prop) (hJd : ∀ s W, J s W → J s W.drew)
    (hY : ∀ pre x W, J pre W → pre.length < n → YieldAt F (N - 1) Try.prog l (encP ad n m x) W fun e W' =>
      (e = .returned (.bool true) ∧ J (pre ++ [x]) W' ∧ KpC n₀ c1 c2 (.slice A n c) (.int .i64 m) W W') ∨ (e = .returned (.bool false) ∧ Jx (pre ++ [x]) W'))
    (W : World) (b1 : Boxed W c1 22 (.slice A n c)) (b2 : Boxed W c2 3 (.int .i64 m)) (h0 : J [] W) :
    CallsIn F N Try.prog 35 #[.func (.yield l) #[] #[], .pointer (some ⟨c1, 0, none⟩), .pointer (some ⟨c2, 0, none⟩)] W fun e W' => (∃ v, e = .returned v) ∧
      ((∃ ys : List (PK n m), (∃ k, n ≤ k * m ∧ ys.map Subtype.val = List.range k) ∧ J ys W') ∨ (∃ pre, True ∧ Jx pre W')) := by
  refine callsIn_of_wp Try.func35 rfl h35 ?_ hro
  simp only [Try.ntmps35, List.size_toArray, List.length_cons, List.length_nil, Nat.reduceAdd, Nat.reduceSub, Array.replicate_succ, Array.replicate_zero, List.push_toArray, List.append_toArray, List.nil_append, List.cons_append]
  gi_wp2
  gi_loopw [4] (fun i wr => ∃ (k i0 : Nat) (pre : List (PK n m)), k * m = i0 ∧ i = .int .i64 (i0 : Int) ∧ pre.map Subtype.val = List.range k ∧ J pre wr ∧ Boxed wr c1 22 (.slice A n c) ∧ Boxed wr c2 3 (.int .i64 m))
    (fun i _ => n - (intOf i).toNat)
  case atStart => exact ⟨0, 0, [], by simp, rfl, by simp, h0, b1, b2⟩
  case round =>
    clear b1 b2 h0
    obtain ⟨k, i0, pre, hki, rfl, hp, hJs, b1, b2⟩ := hrel
    have hc1 := b1.cell
    have hc2 := b2.cell
    by_cases hlt : i0 < n
    · obtain rfl := hA (by omega)
      have hpl : pre.length = k := by have := congrArg List.length hp; simpa using this
      have hkn : k < n := by
        rcases Nat.lt_or_ge k n with h | h
        · exact h
        · have := Nat.mul_le_mul h hm; omega
      obtain ⟨fn, tmps, assign, body, hy, hR⟩ := hY pre ⟨k, by rw [hki]; exact hlt⟩ wr.drew (hJd _ _ hJs) (by rw [hpl]; exact hkn)
      unfold encP pe at hy
      dsimp only at hy
      rw [hki] at hy
      obtain ⟨e, he⟩ : ∃ e, min m (n - i0) = e := ⟨_, rfl⟩
      rw [he] at hy
      gi_wp2
      have i1 : (i0 : Int) ≤ (n : Int) := by omega
      have i2 : (0 : Int) ≤ (i0 : Int) := by omega
      have i3 : (n : Int) ≤ (c : Int) := by omega
      have mixed : Try.prog.follows Departure.mixedOrders = true := by kernel_rfl
      have hif : (if n - i0 < m then ((n - i0 : Nat) : Int) else (m : Int)) = (e : Int) := by split <;> omega
      have hd1 : wr.drew.cell? ⟨c1, 0, none⟩ = some (.slice (some ad) n c) := hc1
      have hd2 : wr.drew.cell? ⟨c2, 0, none⟩ = some (.int .i64 m) := hc2
      have i4 : (i0 : Int) + (e : Int) ≤ (c : Int) := by omega
      have i5 : (i0 : Int) ≤ (i0 : Int) + (e : Int) := by omega
      have i6 : 1 ≤ e := by omega
      have i7 : (i0 : Int) + (m : Int) ≤ 9223372036854775807 := by
        rcases Nat.eq_zero_or_pos k with q | q
        · subst q; simp at hki; omega
        · have := Nat.mul_le_mul q (Nat.le_refl m); omega
      gi_region_o
      all_goals
        gi_wp2
        refine hR.mono ?_
        rintro e' W3 (⟨rfl, hJ3, hk3⟩ | ⟨rfl, hJx3⟩)
        · have b1' := hk3.2.1 b1
          have b2' := hk3.2.2 b2
          have g1 := b1'.cell
          have g2 := b2'.cell
          gi_wp2
          go_roundw
          case rel => exact ⟨k + 1, i0 + m, pre ++ [⟨k, by rw [hki]; exact hlt⟩], by rw [Nat.succ_mul, hki], by go_num, by simp [hp, List.range_succ], hJ3, b1', b2'⟩
          case measure => simp [intOf]; omega
        · gi_wp2
          refine bodyPost_ret (results_none rfl _ _ _) rfl ?_
          exact ⟨⟨_, rfl⟩, .inr ⟨_, trivial, hJx3⟩⟩
    · have hge : ¬ i0 < n := hlt
      gi_wp2
      go_end0
      exact ⟨⟨_, rfl⟩, .inl ⟨pre, ⟨k, by omega, hp⟩, hJs⟩⟩
set_option maxHeartbeats 1000000 in
theorem chunk_in (F : Fence) (N : Nat) (h29 : F.fn 29) (hro : F.round = none) (A : Option Addr) (n c m : Nat) (hm : 1 ≤ m) (w : World) :
    CallsIn F N Try.prog 29 #[.slice A n c, .int .i64 m] w fun e w' => e = .returned (.func (.func 35) #[] #[.pointer (some ⟨w.heap.size, 0, none⟩), .pointer (some ⟨w.heap.size + 1, 0, none⟩)]) ∧ w' = (w.alloc (.cells #[.slice A n c] 22)).alloc (.cells #[.int .i64 m] 3) := by
  have t : decide ((m : Int) < 1) = false := decide_eq_false (by omega)
  refine callsIn_of_wp Try.func29 rfl h29 ?_ hro
  simp only [Try.ntmps29, List.size_toArray, List.length_cons, List.length_nil, Nat.reduceAdd, Nat.reduceSub, Array.replicate_succ, Array.replicate_zero, List.push_toArray, List.append_toArray, List.nil_append, List.cons_append]
  gi_wp2
  go_ret
  exact ⟨rfl, rfl⟩
theorem chunk_stops (F : Fence) (N : Nat) (h35 : F.fn 35) (hro : F.round = none) (hN : 1 ≤ N) (c1 c2 n₀ : Nat) (A : Option Addr) (ad : Addr) (n c m : Nat) (hA : 0 < n → A = some ad) (hn : n ≤ 1000) (hnc : n ≤ c) (hm : 1 ≤ m) (hm2 : m ≤ 9223372036854775807) (w : World)
    (b1 : Boxed w c1 22 (.slice A n c)) (b2 : Boxed w c2 3 (.int .i64 m)) :
    SeqStopsK F N Try.prog 35 #[.pointer (some ⟨c1, 0, none⟩), .pointer (some ⟨c2, 0, none⟩)] (encP ad n m) (KpC n₀ c1 c2 (.slice A n c) (.int .i64 m)) (fun ys => ∃ k, n ≤ k * m ∧ ys.map Subtype.val = List.range k) (fun _ => True) n w := fun l J Jx W hW hJ _ hY h0 =>
  chunk1_in F N h35 hro hN l c1 c2 n₀ A ad n c m hA hn hnc hm hm2 J Jx (fun s W' hs => hJ s W' W'.drew none hs ⟨rfl, rfl, rfl, Nat.le_refl _, fun _ _ _ => rfl⟩ (fun r e => by cases e)) hY W ((hW.block c1 b1.lt).trans b1) ((hW.block c2 b2.lt).trans b2) h0
theorem kpC_t {n₀ c1 c2 : Nat} {v1 v2 : Value} {A B C : World} (h : KpC n₀ c1 c2 v1 v2 A B) (k : KpC n₀ c1 c2 v1 v2 B C) : KpC n₀ c1 c2 v1 v2 A C := ⟨h.1.trans k.1, fun x => k.2.1 (h.2.1 x), fun x => k.2.2 (h.2.2 x)⟩
theorem kpC_b {n₀ c1 c2 : Nat} {v1 v2 : Value} {w : World} (hb : n₀ ≤ w.heap.size) (h1 : c1 < w.heap.size) (h2 : c2 < w.heap.size) (W : World) (l : Nat) (o o' : Obj) (hl : w.heap.size ≤ l) (hh : W.heap[l]? = some o) (hc : o.isCells = false) (hw : o.isWalk = false) : KpC n₀ c1 c2 v1 v2 W (W.putObj l o') :=
  ⟨belowK_b hb W l o o' hl hh hc hw, fun x => (World.putObj_heap_other (by omega)).trans x, fun x => (World.putObj_heap_other (by omega)).trans x⟩
end Go.Proofs.Ytejoiamdhjhjhaa
