/- The walk of slices.Backward and its closure, as an iterator. -/
import Derived.RangeFuncNested
import Derived.RangeFuncBound
import Derived.RangeFuncCalls
import Derived.RangeFuncLeaves
import Derived.RangeFuncBox
import Derived.Shelf.Abstract
import Derived.Shelf.RegionOpen
import Derived.WalkKit
import Derived.OwnWalkIn
import Derived.TacticsInMore
import Derived.LoopNIn
import Derived.LoopIn
import Derived.Test.YtejhphjilmpfkaaPad1
namespace Go.Proofs.Ytejhphjilmpfkaa
open Go.RowKit Go.Shelf
attribute [local go_sem] Oper.semAt_some

/-- an index of a list of bytes -/
abbrev Ix8 (l : List UInt8) := { i : Nat // i < l.length }
def enc8 (l : List UInt8) (x : Ix8 l) : Array Value := #[.int .i64 (x.1 : Int), .int .u8 ((l[x.1]'x.2).toNat : Int)]
/-- the indices that have come when k rounds are over, from the last one down -/
def downTo (n k : Nat) : List Nat := (List.range k).map fun j => n - 1 - j
theorem downTo_succ (n k : Nat) : downTo n (k + 1) = downTo n k ++ [n - 1 - k] := by simp [downTo, List.range_succ]

set_option maxRecDepth 100000 in
set_option maxHeartbeats 2000000 in
theorem back1_in (F : Fence) (m : Nat) (h21 : F.fn 21) (hro : F.round = none) (hm : 1 ≤ m) (lp Bs n₀ : Nat) (A : Option Addr) (n c : Nat) (l : List UInt8) (w0 : World) (hn0 : n₀ = w0.heap.size) (hs : Sl w0 A n c (bv l))
    (hBs : w0.cell? ⟨Bs, 0, none⟩ = some (.slice A n c)) (J Jx : List (Ix8 l) → World → Prop)
    (hY : ∀ pre x W, J pre W → pre.length < n → YieldAt F (m - 1) Try.prog lp (enc8 l x) W fun e W' =>
      (e = .returned (.bool true) ∧ J (pre ++ [x]) W' ∧ Below n₀ W W') ∨ (e = .returned (.bool false) ∧ Jx (pre ++ [x]) W'))
    (W : World) (hW : Below n₀ w0 W) (h0 : J [] W) :
    CallsIn F m Try.prog 21 #[.func (.yield lp) #[] #[], .pointer (some ⟨Bs, 0, none⟩)] W fun e W' => (∃ v, e = .returned v) ∧
      ((∃ ys, ys.map (·.1) = downTo n n ∧ J ys W') ∨ (∃ pre, (∃ k, k ≤ n ∧ pre.map (·.1) = downTo n k) ∧ Jx pre W')) := by
  subst hn0
  have Hlen := Lib.hid (show l.length = n by have := hs.len; rwa [bv_length] at this)
  have htop := hs.top; have hcap := hs.cap; unfold maxLen at htop
  have Hl0 : w0.heap.size = w0.heap.size := rfl
  clear Hl0
  have hBs1 := (hW.cell (p := ⟨Bs, 0, none⟩) (World.block_lt_of_cell? _ _ hBs)).trans hBs
  refine callsIn_of_wp Try.func21 rfl h21 ?_ hro
  simp only [Try.ntmps21, List.size_toArray, List.length_cons, List.length_nil, Nat.reduceAdd, Nat.reduceSub, Array.replicate_succ, Array.replicate_zero, List.push_toArray, List.append_toArray, List.nil_append, List.cons_append]
  gi_wp2
  gi_loopw [3] (fun i wr => ∃ (k : Nat) (pre : List (Ix8 l)), k ≤ n ∧ i = .int .i64 ((n : Int) - 1 - k) ∧ pre.map (·.1) = downTo n k ∧ J pre wr ∧ Below w0.heap.size w0 wr)
    (fun i _ => (intOf i + 1).toNat)
  case atStart => exact ⟨0, [], Nat.zero_le _, by simp, rfl, h0, hW⟩
  case round =>
    obtain ⟨k, pre, hk, rfl, hp, hJs, hnx⟩ := hrel
    have Hp := Lib.hid hp; clear hp
    have hBs2 := (hnx.cell (p := ⟨Bs, 0, none⟩) (World.block_lt_of_cell? _ _ hBs)).trans hBs
    clear hBs1
    by_cases hlt : k < n
    · have hpl : pre.length = k := by have := congrArg List.length Hp.out; simpa [downTo] using this
      obtain ⟨x, hx⟩ : ∃ x : Ix8 l, x.1 = n - 1 - k := ⟨⟨n - 1 - k, by rw [Hlen.out]; omega⟩, rfl⟩
      obtain ⟨fn, tmps, assign, body, hy, hR⟩ := hY pre x wr hJs (by omega)
      clear hpl
      obtain ⟨ad, hl, rfl, hc⟩ := (hs.below hnx).byte (k := n - 1 - k) (by omega)
      have hyx : enc8 l x = #[.int .i64 ((n : Int) - 1 - k), .int .u8 ((l[n - 1 - k]'hl).toNat : Int)] := by
        unfold enc8
        have e1 : ((n - 1 - k : Nat) : Int) = (n : Int) - 1 - k := by omega
        simp only [hx, e1]
      rw [hyx] at hy
      have Hx := Lib.hid hx; clear hx hyx
      have e2 : ((n : Int) - 1 - k).toNat = n - 1 - k := by omega
      have b1 : 0 ≤ (n : Int) - 1 - k := by omega
      have b2 : (n : Int) - 1 - k < n := by omega
      gi_wp2
      refine hR.mono ?_
      rintro e W3 (⟨rfl, hJ3, hk3⟩ | ⟨rfl, hJx3⟩)
      · gi_wp2
        go_roundw
        case rel => exact ⟨k + 1, pre ++ [x], by omega, by first | go_num | (congr 1; omega), by rw [List.map_append, Hp.out, downTo_succ, List.map_singleton, Hx.out], hJ3, hnx.trans hk3⟩
        case measure => simp [intOf]; omega
      · gi_wp2
        refine bodyPost_ret (results_none rfl _ _ _) rfl ?_
        exact ⟨⟨_, rfl⟩, .inr ⟨pre ++ [x], ⟨k + 1, by omega, by rw [List.map_append, Hp.out, downTo_succ, List.map_singleton, Hx.out]⟩, hJx3⟩⟩
    · obtain rfl : k = n := by omega
      gi_wp2
      go_end0
      exact ⟨⟨_, rfl⟩, .inl ⟨pre, Hp.out, hJs⟩⟩

theorem back_in (F : Fence) (m : Nat) (h17 : F.fn 17) (hro : F.round = none) (A : Option Addr) (n c : Nat) (w : World) :
    CallsIn F m Try.prog 17 #[.slice A n c] w fun e w' => e = .returned (.func (.func 21) #[] #[.pointer (some ⟨w.heap.size, 0, none⟩)]) ∧ w' = w.alloc (.cells #[.slice A n c] 22) := by
  refine callsIn_of_wp Try.func17 rfl h17 ?_ hro
  simp only [Try.ntmps17, List.size_toArray, List.length_cons, List.length_nil, Nat.reduceAdd, Nat.reduceSub, Array.replicate_succ, Array.replicate_zero, List.push_toArray, List.append_toArray, List.nil_append, List.cons_append]
  gi_wp2
  go_ret
  exact ⟨rfl, rfl⟩

theorem back_stops (F : Fence) (m : Nat) (h21 : F.fn 21) (hro : F.round = none) (hm : 1 ≤ m) (Bs : Nat) (A : Option Addr) (n c : Nat) (l : List UInt8) (w : World) (hs : Sl w A n c (bv l))
    (hBs : w.cell? ⟨Bs, 0, none⟩ = some (.slice A n c)) :
    SeqStopsK F m Try.prog 21 #[.pointer (some ⟨Bs, 0, none⟩)] (enc8 l) (Below w.heap.size) (fun ys => ys.map (·.1) = downTo n n) (fun pre => ∃ k, k ≤ n ∧ pre.map (·.1) = downTo n k) n w :=
  fun lp J Jx W hW _ _ hY h0 => back1_in F m h21 hro hm lp Bs _ A n c l w rfl hs hBs J Jx hY W hW h0
end Go.Proofs.Ytejhphjilmpfkaa
