/- Plain laws on padded lists of bytes; no program in sight. -/
import Derived.Test.YtejhphjilmpfkaaBase
import Derived.Lib.BitFns
namespace Go.Proofs.Ytejhphjilmpfkaa

/-- the bucket of so many bytes, below 65536 -/
def bk (n : Nat) : Nat := max 32 (2 ^ Lib.bitLen n)

theorem bitLenAux_lt : ∀ (f x : Nat), x < 2 ^ f → x < 2 ^ Lib.bitLenAux f x
  | 0, x, h => by simpa [Lib.bitLenAux] using h
  | f + 1, x, h => by
    unfold Lib.bitLenAux
    split
    · rename_i h0; subst h0; exact Nat.one_pos
    · have := bitLenAux_lt f (x / 2) (by rw [Nat.pow_succ] at h; omega)
      rw [Nat.add_comm 1, Nat.pow_succ]; omega
theorem bitLen_lt (n : Nat) (h : n < 65536) : n < 2 ^ Lib.bitLen n := bitLenAux_lt 64 n (by omega)
theorem lt_bk (n : Nat) (h : n < 65536) : n < bk n := by have := bitLen_lt n h; unfold bk; omega
theorem bitLen16 (n : Nat) (h : n < 65536) : Lib.bitLen n ≤ 16 := Lib.bitLen_le n 16 (by omega) h
theorem bk_le (n : Nat) (h : n < 65536) : bk n ≤ 65536 := by
  have := Nat.pow_le_pow_right (n := 2) (by omega) (bitLen16 n h)
  unfold bk; omega
theorem bk_ge (n : Nat) : 32 ≤ bk n := by unfold bk; omega

/-- what is filled up -/
def padL (l : List UInt8) : List UInt8 := l ++ 128 :: List.replicate (bk l.length - l.length - 1) 0
theorem padL_length (l : List UInt8) (h : l.length < 65536) : (padL l).length = bk l.length := by
  have := lt_bk l.length h
  simp [padL]; omega
theorem pad_cells (l : List UInt8) (h : l.length < 65536) :
    (bv l ++ (List.replicate (bk l.length) (Value.int .u8 0)).drop l.length).set l.length (.int .u8 128) = bv (padL l) := by
  have := lt_bk l.length h
  rw [padL, bv_append, List.drop_replicate]
  obtain ⟨k, hk⟩ : ∃ k, bk l.length - l.length = k + 1 := ⟨bk l.length - l.length - 1, by omega⟩
  rw [List.set_append_right _ _ (by simp), bv_length, Nat.sub_self, hk, List.replicate_succ, List.set_cons_zero, Nat.add_sub_cancel]
  simp [bv]
end Go.Proofs.Ytejhphjilmpfkaa
