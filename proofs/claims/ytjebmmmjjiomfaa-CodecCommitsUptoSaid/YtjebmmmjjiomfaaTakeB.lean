/- The walk of wire.TakeBytes. -/
import Derived.Test.YtjebmmmjjiomfaaBytes
namespace Go.Proofs.Ytjebmmmjjiomfaa
open Go.RowKit

/-- what is read as a vector: the bytes, how many were read, the error -/
def takeB (l : List UInt8) : List UInt8 × Nat × Nat :=
  if (takeI l).2.2 ≠ 0 then ([], 0, (takeI l).2.2)
  else if l.length - (takeI l).2.1 < (takeI l).1 then ([], 0, 10)
  else ((l.drop (takeI l).2.1).take (takeI l).1, (takeI l).2.1 + (takeI l).1, 0)
def TB (l : List UInt8) (w : World) (e : Ending) (w' : World) : Prop :=
  ∃ A' c', e = .returned (.tuple #[.slice A' (takeB l).1.length c', .int .i64 ((takeB l).2.1 : Nat), .int .i64 ((takeB l).2.2 : Nat)]) ∧ Ow w' w.heap.size 5 1 A' (takeB l).1.length c' (bv (takeB l).1) ∧ Below w.heap.size w w'

set_option maxRecDepth 100000 in
set_option maxHeartbeats 1000000 in
theorem takeB_any (A : Option Addr) (n c : Nat) (l : List UInt8) (w : World) (h : Sl w A n c (bv l)) (hn : Hid (n ≤ 140737488355328)) :
    Calls Try.prog 57 #[.slice A n c] w (TB l w) := by
  have hl := h.len; rw [bv_length] at hl
  have hI := takeInt_any A n c l w h
  obtain ⟨m, hm⟩ : ∃ m, (takeI l).1 = m := ⟨_, rfl⟩
  obtain ⟨k, hk⟩ : ∃ k, (takeI l).2.1 = k := ⟨_, rfl⟩
  obtain ⟨x, hx⟩ : ∃ x, (takeI l).2.2 = x := ⟨_, rfl⟩
  rw [hm, hk, hx] at hI
  have hT : takeB l = if x ≠ 0 then ([], 0, x) else if n - k < m then ([], 0, 10) else ((l.drop k).take m, k + m, 0) := by unfold takeB; rw [hm, hk, hx, hl]
  have HI := Lib.hid hI; have HT := Lib.hid hT; have HL := Lib.hid hl; clear hI hT hl
  by_cases hx0 : x = 0
  · subst hx0
    have hti := int_take l m k (by rw [← hm, ← hk, ← hx])
    have hk1 := hti.2.1
    have hk2 : k ≤ n := by have := hti.2.2.1; rw [HL.out] at this; exact this
    have hn1 : (n : Int) ≤ 140737488355328 := by have := hn.out; omega
    clear hti hm hk hx
    by_cases hs : n - k < m
    · have i1 : (n : Int) - k < m := by omega
      have HT2 := Lib.hid (show takeB l = ([], 0, 10) by rw [HT.out, if_neg (by omega), if_pos hs])
      clear hs
      go_enter Try.func57, Try.ntmps57
      go_wp2_with (go_at_call 17; refine HI.out.mono ?_; rintro e w' ⟨rfl, rfl⟩)
      go_ret3
      exact ⟨none, 0, by rw [HT2.out]; rfl, by rw [HT2.out]; exact Ow.nil _ _ _ _, Below.refl _ _⟩
    · have i1 : (m : Int) ≤ (n : Int) - k := by omega
      have HT2 := Lib.hid (show takeB l = ((l.drop k).take m, k + m, 0) by rw [HT.out, if_neg (by omega), if_neg hs])
      clear hs
      have i2 : (k : Int) + m ≤ n := by omega
      have hc3 : n ≤ c := h.cap
      obtain ⟨ad, hl0, rfl, hc0⟩ := h.byte (k := 0) (by omega)
      clear hc0 hl0
      have hsub := h.sub (lo := k) (hi := k + m) (by omega) (by omega)
      rw [Nat.add_sub_cancel_left, ← bv_take, ← bv_drop, List.drop_take, Nat.add_sub_cancel_left] at hsub
      have hmn : m ≤ n := by omega
      have HS := Lib.hid hsub; have HM := Lib.hid hmn; clear hsub hmn
      by_cases hce : c = k
      · subst hce
        go_enter Try.func57, Try.ntmps57
        go_wp2_with (go_at_call 17; refine HI.out.mono ?_; rintro e w' ⟨rfl, rfl⟩)
        refine (clone _ m _ (bv ((l.drop c).take m)) w ?_ (bv_one _) (Nat.le_trans HM.out hn.out)).mono ?_
        · have := HS.out
          simpa using this
        rintro e w1 ⟨A1, c1, rfl, hO1, hB1⟩
        go_wp2_with fail
        go_ret3
        have hlen : ((l.drop c).take m).length = m := by have := hO1.1; simpa using this
        refine ⟨A1, c1, ?_, ?_, hB1⟩
        · rw [HT2.out]; dsimp only; rw [hlen]; rfl
        · rw [HT2.out]; dsimp only; rw [hlen]; exact hO1
      · go_enter Try.func57, Try.ntmps57
        go_wp2_with (go_at_call 17; refine HI.out.mono ?_; rintro e w' ⟨rfl, rfl⟩)
        refine (clone _ m _ (bv ((l.drop k).take m)) w ?_ (bv_one _) (Nat.le_trans HM.out hn.out)).mono ?_
        · have := HS.out
          rwa [if_neg hce] at this
        rintro e w1 ⟨A1, c1, rfl, hO1, hB1⟩
        go_wp2_with fail
        go_ret3
        have hlen : ((l.drop k).take m).length = m := by have := hO1.1; simpa using this
        refine ⟨A1, c1, ?_, ?_, hB1⟩
        · rw [HT2.out]; dsimp only; rw [hlen]; rfl
        · rw [HT2.out]; dsimp only; rw [hlen]; exact hO1
  · have HT2 := Lib.hid (show takeB l = ([], 0, x) by rw [HT.out, if_pos hx0])
    have t1 : (x != 0) = true := by simpa using hx0
    have t2 : ((x : Int) != 0) = true := by rw [bne_iff_ne]; omega
    clear hx0 hm hk hx
    go_enter Try.func57, Try.ntmps57
    go_wp2_with (go_at_call 17; refine HI.out.mono ?_; rintro e w' ⟨rfl, rfl⟩)
    go_ret3
    exact ⟨none, 0, by rw [HT2.out]; rfl, by rw [HT2.out]; exact Ow.nil _ _ _ _, Below.refl _ _⟩
end Go.Proofs.Ytjebmmmjjiomfaa
