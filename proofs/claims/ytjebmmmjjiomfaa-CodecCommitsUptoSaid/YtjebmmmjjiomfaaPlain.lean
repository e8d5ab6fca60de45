/- Plain laws on numbers and vectors as bytes; no program in sight. -/
import Derived.Test.YtjebmmmjjiomfaaBase
import Derived.Lib.BitFns
namespace Go.Proofs.Ytjebmmmjjiomfaa

/-- a number in so many bytes, the greatest first -/
def wideL (n k : Nat) : List UInt8 := (List.range k).map fun j => UInt8.ofNat (n / 2 ^ (8 * (k - 1 - j)))
/-- the number that bytes are -/
def unL (l : List UInt8) : Nat := l.foldl (fun a b => a * 256 + b.toNat) 0
@[simp] theorem wideL_length (n k : Nat) : (wideL n k).length = k := by simp [wideL]
theorem wideL_snoc (n k j : Nat) (h : j < k) : (wideL n k).take (j + 1) = (wideL n k).take j ++ [UInt8.ofNat (n / 2 ^ (8 * (k - 1 - j)))] := by
  rw [List.take_add_one, wideL, List.getElem?_map, List.getElem?_range h]; rfl
theorem unL_snoc (l : List UInt8) (b : UInt8) : unL (l ++ [b]) = unL l * 256 + b.toNat := by simp [unL]
theorem unL_lt (l : List UInt8) : unL l < 2 ^ (8 * l.length) := by
  have key : ∀ (l : List UInt8) (a k : Nat), a < 2 ^ k → l.foldl (fun a b => a * 256 + b.toNat) a < 2 ^ (k + 8 * l.length) := by
    intro l
    induction l with
    | nil => intro a k h; simpa using h
    | cons b r ih =>
      intro a k h
      have h2 : a * 256 + b.toNat < 2 ^ (k + 8) := by
        rw [Nat.pow_add]; have := b.toNat_lt; omega
      have := ih _ _ h2
      rw [List.foldl_cons, List.length_cons, show k + 8 * (r.length + 1) = k + 8 + 8 * r.length by omega]; exact this
  have := key l 0 0 (by omega)
  simpa [unL] using this
theorem wideL_succ (n k : Nat) : wideL n (k + 1) = wideL (n / 256) k ++ [UInt8.ofNat n] := by
  unfold wideL
  rw [List.range_succ, List.map_append]
  congr 1
  · apply List.map_congr_left
    intro j hj
    rw [List.mem_range] at hj
    have : 8 * (k + 1 - 1 - j) = 8 * (k - 1 - j) + 8 := by omega
    rw [this, Nat.pow_add, Nat.mul_comm, ← Nat.div_div_eq_div_mul]
  · simp
theorem unL_wideL (k : Nat) : ∀ n, n < 2 ^ (8 * k) → unL (wideL n k) = n := by
  induction k with
  | zero => intro n h; simp at h; subst h; rfl
  | succ k ih =>
    intro n h
    rw [wideL_succ, unL_snoc, ih (n / 256) (by rw [show 8 * (k + 1) = 8 * k + 8 by omega, Nat.pow_add] at h; omega), UInt8.toNat_ofNat']
    omega
theorem wideL_unL (l : List UInt8) : wideL (unL l) l.length = l := by
  have key : ∀ (r : List UInt8), wideL (unL r.reverse) r.length = r.reverse := by
    intro r
    induction r with
    | nil => rfl
    | cons b r ih =>
      rw [List.reverse_cons, unL_snoc, List.length_cons, wideL_succ]
      have hb := b.toNat_lt
      rw [show (unL r.reverse * 256 + b.toNat) / 256 = unL r.reverse by omega, ih]
      congr 2
      apply UInt8.toNat_inj.1
      rw [UInt8.toNat_ofNat']; omega
  have := key l.reverse
  simpa using this
theorem wideL_zero (n k : Nat) (h : n < 2 ^ (8 * k)) : wideL n (k + 1) = 0 :: wideL n k := by
  unfold wideL
  rw [List.range_succ_eq_map, List.map_cons, List.map_map]
  congr 1
  · rw [show 8 * (k + 1 - 1 - 0) = 8 * k by omega, Nat.div_eq_of_lt h]; rfl
  · apply List.map_congr_left
    intro j hj
    simp only [Function.comp_apply]
    rw [show k + 1 - 1 - (j + 1) = k - 1 - j by omega]

/-- how many bytes a number takes, as a power of two -/
def sz (n : Nat) : Nat := if n < 64 then 0 else if n < 16384 then 1 else 2
/-- a number's bytes, below 2^30 -/
def intL (n : Nat) : List UInt8 :=
  if n < 64 then [UInt8.ofNat n] else if n < 16384 then [UInt8.ofNat (64 + n / 256), UInt8.ofNat n]
  else [UInt8.ofNat (128 + n / 16777216), UInt8.ofNat (n / 65536), UInt8.ofNat (n / 256), UInt8.ofNat n]
theorem intL_length (n : Nat) : (intL n).length = 2 ^ sz n := by unfold intL sz; split <;> (try split) <;> rfl
theorem sz_le (n : Nat) : sz n ≤ 2 := by unfold sz; split <;> (try split) <;> omega
/-- what is read as a number: the number, how many bytes, the error -/
def takeI (l : List UInt8) : Nat × Nat × Nat :=
  match l with
  | [] => (0, 0, 10)
  | b :: r =>
    if b.toNat / 64 = 3 then (0, 0, 11)
    else if (b :: r).length < 2 ^ (b.toNat / 64) then (0, 0, 10)
    else if sz (unL ((b :: r).take (2 ^ (b.toNat / 64))) % 2 ^ (8 * 2 ^ (b.toNat / 64) - 2)) ≠ b.toNat / 64 then (0, 0, 11)
    else (unL ((b :: r).take (2 ^ (b.toNat / 64))) % 2 ^ (8 * 2 ^ (b.toNat / 64) - 2), 2 ^ (b.toNat / 64), 0)

theorem ofNat_toNat (n : Nat) : (UInt8.ofNat n).toNat = n % 256 := UInt8.toNat_ofNat'
theorem take_int (n : Nat) (h : n < 1073741824) (r : List UInt8) : takeI (intL n ++ r) = (n, (intL n).length, 0) := by
  unfold intL
  by_cases h1 : n < 64
  · rw [if_pos h1]
    have e0 : (UInt8.ofNat n).toNat = n := by rw [ofNat_toNat]; omega
    have e1 : n / 64 = 0 := by omega
    simp only [List.cons_append, List.nil_append, takeI, e0, e1, Nat.pow_zero, List.length_cons, List.length_nil]
    rw [if_neg (by omega), if_neg (by omega)]
    have e2 : unL ((UInt8.ofNat n :: r).take 1) = n := by
      simp only [List.take_succ_cons, List.take_zero, unL, List.foldl_cons, List.foldl_nil, e0]; omega
    rw [e2, show n % 2 ^ (8 * 1 - 2) = n by omega]
    simp [sz, h1]
  · rw [if_neg h1]
    by_cases h2 : n < 16384
    · rw [if_pos h2]
      have e0 : (UInt8.ofNat (64 + n / 256)).toNat = 64 + n / 256 := by rw [ofNat_toNat]; omega
      have e1 : (64 + n / 256) / 64 = 1 := by omega
      simp only [List.cons_append, List.nil_append, takeI, e0, e1, Nat.pow_one, List.length_cons, List.length_nil]
      rw [if_neg (by omega), if_neg (by omega)]
      have e2 : unL ((UInt8.ofNat (64 + n / 256) :: UInt8.ofNat n :: r).take 2) = 16384 + n := by
        simp only [List.take_succ_cons, List.take_zero, unL, List.foldl_cons, List.foldl_nil, ofNat_toNat]; omega
      rw [e2, show (16384 + n) % 2 ^ (8 * 2 - 2) = n by omega]
      simp [sz, h1, h2]
    · rw [if_neg h2]
      have e0 : (UInt8.ofNat (128 + n / 16777216)).toNat = 128 + n / 16777216 := by rw [ofNat_toNat]; omega
      have e1 : (128 + n / 16777216) / 64 = 2 := by omega
      simp only [List.cons_append, List.nil_append, takeI, e0, e1, List.length_cons, List.length_nil]
      rw [if_neg (by omega), if_neg (by simp)]
      have e2 : unL ((UInt8.ofNat (128 + n / 16777216) :: UInt8.ofNat (n / 65536) :: UInt8.ofNat (n / 256) :: UInt8.ofNat n :: r).take (2 ^ 2)) = 2147483648 + n := by
        simp only [Nat.reducePow, List.take_succ_cons, List.take_zero, unL, List.foldl_cons, List.foldl_nil, ofNat_toNat]; omega
      rw [e2, show (2147483648 + n) % 2 ^ (8 * 2 ^ 2 - 2) = n by omega]
      simp [sz, h1, h2]
theorem int_take (l : List UInt8) (n k : Nat) (h : takeI l = (n, k, 0)) : n < 1073741824 ∧ 1 ≤ k ∧ k ≤ l.length ∧ intL n = l.take k ∧ k = (intL n).length := by
  match l, h with
  | b :: r, h =>
    unfold takeI at h
    dsimp only at h
    have hb := b.toNat_lt
    by_cases h1 : b.toNat / 64 = 3
    · rw [if_pos h1] at h; simp at h
    · rw [if_neg h1] at h
      by_cases h2 : (b :: r).length < 2 ^ (b.toNat / 64)
      · rw [if_pos h2] at h; simp at h
      · rw [if_neg h2] at h
        by_cases h3 : sz (unL ((b :: r).take (2 ^ (b.toNat / 64))) % 2 ^ (8 * 2 ^ (b.toNat / 64) - 2)) ≠ b.toNat / 64
        · rw [if_pos h3] at h; simp at h
        · rw [if_neg h3] at h
          simp only [Prod.mk.injEq, and_true] at h
          obtain ⟨hn, hk⟩ := h
          simp only [ne_eq, Decidable.not_not] at h3
          rw [hn] at h3
          have hc : b.toNat / 64 = 0 ∨ b.toNat / 64 = 1 ∨ b.toNat / 64 = 2 := by omega
          rcases hc with hc | hc | hc
          · rw [hc] at hn hk h3
            simp only [Nat.pow_zero, List.take_succ_cons, List.take_zero, unL, List.foldl_cons, List.foldl_nil] at hn hk
            have e : intL n = [b] := by
              unfold intL; rw [if_pos (by omega)]; congr 1; apply UInt8.toNat_inj.1; rw [ofNat_toNat]; omega
            rw [e, ← hk]; refine ⟨by omega, by omega, by simp, by simp, by simp⟩
          · rw [hc] at hn hk h3 h2
            rcases r with _ | ⟨c, r⟩
            · simp at h2
            · have hcc := c.toNat_lt
              simp only [Nat.pow_one, List.take_succ_cons, List.take_zero, unL, List.foldl_cons, List.foldl_nil] at hn hk
              have n1 : ¬ n < 64 := by intro h; unfold sz at h3; rw [if_pos h] at h3; omega
              have e : intL n = [b, c] := by
                unfold intL; rw [if_neg n1, if_pos (by omega)]
                congr 1
                · apply UInt8.toNat_inj.1; rw [ofNat_toNat]; omega
                · congr 1; apply UInt8.toNat_inj.1; rw [ofNat_toNat]; omega
              rw [e, ← hk]; refine ⟨by omega, by omega, by simp, by simp, by simp⟩
          · rw [hc] at hn hk h3 h2
            rcases r with _ | ⟨c, _ | ⟨d, _ | ⟨e, r⟩⟩⟩
            · simp at h2
            · simp at h2
            · simp at h2
            · have hcc := c.toNat_lt; have hdd := d.toNat_lt; have hee := e.toNat_lt
              simp only [Nat.reducePow, List.take_succ_cons, List.take_zero, unL, List.foldl_cons, List.foldl_nil] at hn hk
              have n2 : ¬ n < 16384 := by intro h; unfold sz at h3; split at h3 <;> (try split at h3) <;> omega
              have ee : intL n = [b, c, d, e] := by
                unfold intL; rw [if_neg (by omega), if_neg n2]
                congr 1
                · apply UInt8.toNat_inj.1; rw [ofNat_toNat]; omega
                · congr 1
                  · apply UInt8.toNat_inj.1; rw [ofNat_toNat]; omega
                  · congr 1
                    · apply UInt8.toNat_inj.1; rw [ofNat_toNat]; omega
                    · congr 1; apply UInt8.toNat_inj.1; rw [ofNat_toNat]; omega
              rw [ee, ← hk]; refine ⟨by omega, by omega, by simp, by simp, by simp⟩
theorem take_short (n : Nat) (h : n < 1073741824) (j : Nat) (hj : j < (intL n).length) : takeI ((intL n).take j) = (0, 0, 10) := by
  match j with
  | 0 => simp [takeI]
  | j + 1 =>
    unfold intL at hj ⊢
    by_cases h1 : n < 64
    · rw [if_pos h1] at hj; simp at hj
    · rw [if_neg h1] at hj ⊢
      by_cases h2 : n < 16384
      · rw [if_pos h2] at hj ⊢
        have e0 : (UInt8.ofNat (64 + n / 256)).toNat = 64 + n / 256 := by rw [ofNat_toNat]; omega
        have e1 : (64 + n / 256) / 64 = 1 := by omega
        obtain rfl : j = 0 := by simp at hj; omega
        rw [List.take_succ_cons]
        unfold takeI
        dsimp only
        rw [e0, e1, if_neg (by omega), if_pos (by simp)]
      · rw [if_neg h2] at hj ⊢
        have e0 : (UInt8.ofNat (128 + n / 16777216)).toNat = 128 + n / 16777216 := by rw [ofNat_toNat]; omega
        have e1 : (128 + n / 16777216) / 64 = 2 := by omega
        have hj2 : j < 3 := by simp at hj; omega
        rw [List.take_succ_cons]
        unfold takeI
        dsimp only
        rw [e0, e1, if_neg (by omega), if_pos]
        simp; omega
end Go.Proofs.Ytjebmmmjjiomfaa
