/- Plain: what was written as a list is read as what it was; a beginning that is shorter is too short. -/
import Derived.Test.YtjebmmmjjiomfaaOneK
namespace Go.Proofs.Ytjebmmmjjiomfaa
open Go.RowKit

theorem take_bytes (x r : List UInt8) (h : x.length < 1073741824) : takeB (bytesL x ++ r) = (x, (bytesL x).length, 0) := by
  unfold takeB bytesL
  rw [List.append_assoc, take_int x.length h (x ++ r)]
  have e1 : ¬ (intL x.length ++ (x ++ r)).length - (intL x.length).length < x.length := by simp only [List.length_append]; omega
  simp only []
  rw [if_neg (by simp), if_neg e1, List.drop_left, List.take_left, List.length_append]
theorem bytesL_ne (x : List UInt8) : 1 ≤ (bytesL x).length := by
  have h1 := bytesL_len x; have h2 := intL_le x.length; omega
theorem jl_cons (x : List UInt8) (r : List (List UInt8)) : jl (x :: r) = bytesL x ++ jl r := by simp [jl]
theorem vecs_jl_ok : ∀ (bss : List (List UInt8)), (∀ x ∈ bss, x.length < 1073741824) → vecs (jl bss).length (jl bss) = some bss
  | [], _ => rfl
  | x :: r, h => by
    have ih := vecs_jl_ok r (fun y hy => h y (List.mem_cons_of_mem _ hy))
    have ht := take_bytes x (jl r) (h x List.mem_cons_self)
    have hb := bytesL_ne x
    rw [jl_cons]
    have hne : bytesL x ++ jl r ≠ [] := fun e => by have := congrArg List.length e; rw [List.length_append, List.length_nil] at this; omega
    rw [vecs_step _ hne (by rw [ht]), ht]
    show (vecs ((bytesL x ++ jl r).length - (bytesL x).length) ((bytesL x ++ jl r).drop (bytesL x).length)).map (x :: ·) = _
    rw [List.drop_left, List.length_append, Nat.add_sub_cancel_left, ih]
    rfl
theorem split_back (bss : List (List UInt8)) (r : List UInt8) (h1 : ∀ x ∈ bss, x.length < 1073741824) (h2 : (jl bss).length < 1073741824) : splitL (bytesL (jl bss) ++ r) = some (bss, (bytesL (jl bss)).length) := by
  unfold splitL
  rw [take_bytes _ r h2]
  simp only []
  rw [if_neg (by simp), vecs_jl_ok bss h1]
  rfl
theorem take_few (n k : Nat) (h : n < 1073741824) (hk : k < (intL n).length) : (takeI ((intL n).take k)).2.2 = 10 := by
  unfold intL at hk ⊢
  by_cases h1 : n < 64
  · rw [if_pos h1] at hk ⊢
    obtain rfl : k = 0 := by simp at hk; omega
    rfl
  · rw [if_neg h1] at hk ⊢
    by_cases h2 : n < 16384
    · rw [if_pos h2] at hk ⊢
      simp only [List.length_cons, List.length_nil] at hk
      match k, hk with
      | 0, _ => rfl
      | 1, _ =>
        have e0 : (UInt8.ofNat (64 + n / 256)).toNat = 64 + n / 256 := by rw [ofNat_toNat]; omega
        have e1 : (64 + n / 256) / 64 = 1 := by omega
        simp only [List.take_succ_cons, List.take_zero, takeI, e0, e1, Nat.pow_one, List.length_cons, List.length_nil]
        rw [if_neg (by omega), if_pos (by omega)]
    · rw [if_neg h2] at hk ⊢
      simp only [List.length_cons, List.length_nil] at hk
      have e0 : (UInt8.ofNat (128 + n / 16777216)).toNat = 128 + n / 16777216 := by rw [ofNat_toNat]; omega
      have e1 : (128 + n / 16777216) / 64 = 2 := by omega
      match k, hk with
      | 0, _ => rfl
      | 1, _ | 2, _ | 3, _ =>
        simp only [List.take_succ_cons, List.take_zero, takeI, e0, e1, List.length_cons, List.length_nil]
        rw [if_neg (by omega), if_pos (by omega)]
theorem takeB_short (y : List UInt8) (k : Nat) (h : y.length < 1073741824) (hk : k < (bytesL y).length) : (takeB ((bytesL y).take k)).2.2 = 10 := by
  by_cases hi : k < (intL y.length).length
  · have e : (bytesL y).take k = (intL y.length).take k := by unfold bytesL; rw [List.take_append_of_le_length (by omega)]
    rw [e]
    unfold takeB
    have := take_few y.length k h hi
    rw [if_pos (by rw [this]; omega)]
    exact this
  · have e : (bytesL y).take k = intL y.length ++ y.take (k - (intL y.length).length) := by
      unfold bytesL; rw [List.take_append, List.take_of_length_le (by omega)]
    rw [e]
    unfold takeB
    rw [take_int y.length h]
    unfold bytesL at hk
    rw [List.length_append] at hk
    simp only []
    rw [if_neg (by simp), if_pos (by simp only [List.length_append, List.length_take]; omega)]
theorem jl_len_le : ∀ (bss : List (List UInt8)), (jl bss).length ≤ (bss.map fun x => x.length + 4).sum
  | [] => by simp [jl]
  | x :: r => by
    have := jl_len_le r
    rw [jl_cons, List.length_append, List.map_cons, List.sum_cons]
    have h : (bytesL x).length ≤ x.length + 4 := by
      unfold bytesL; rw [List.length_append, intL_length]
      have := sz_le x.length
      have : 2 ^ sz x.length ≤ 4 := by
        match sz x.length, this with
        | 0, _ | 1, _ | 2, _ => decide
      omega
    omega
end Go.Proofs.Ytjebmmmjjiomfaa
