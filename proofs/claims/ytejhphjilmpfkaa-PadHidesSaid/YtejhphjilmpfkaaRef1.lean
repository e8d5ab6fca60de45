/- The walks of the reference's Bucket, Pad and Unpad. -/
import Derived.Test.YtejhphjilmpfkaaLive
import Derived.Test.YtejhphjilmpfkaaBig
namespace Go.Proofs.Ytejhphjilmpfkaa
open Go.RowKit

theorem bk_small (n : Nat) (h : n < 32) : bk n = 32 := by
  have := Nat.pow_le_pow_right (n := 2) (by omega) (Lib.bitLen_le n 5 (by omega) (by omega))
  unfold bk; omega
theorem bk_at (n j : Nat) (h5 : 5 ≤ j) (hj : j ≤ 15) (h1 : 2 ^ j ≤ n) (h2 : n < 2 ^ (j + 1)) : bk n = 2 ^ (j + 1) := by
  have hp := Nat.pow_le_pow_right (n := 2) (by omega) (show j + 1 ≤ 16 by omega)
  have a := Lib.bitLen_le n (j + 1) (by omega) h2
  have b := bitLen_lt n (by omega)
  have c : j + 1 ≤ Lib.bitLen n := by
    rcases Nat.lt_or_ge j (Lib.bitLen n) with h | h
    · exact h
    · have := Nat.pow_le_pow_right (n := 2) (by omega) h
      omega
  have d : Lib.bitLen n = j + 1 := by omega
  have e := Nat.pow_le_pow_right (n := 2) (by omega) (show 5 ≤ j + 1 by omega)
  unfold bk; rw [d]; omega
theorem bkv32 (n : Int) (h0 : 0 ≤ n) (h : n < 32) : ((bk n.toNat : Nat) : Int) = 32 := by rw [bk_small _ (by omega)]; rfl
theorem bkv64 (n : Int) (h1 : 32 ≤ n) (h2 : n < 64) : ((bk n.toNat : Nat) : Int) = 64 := by rw [bk_at n.toNat 5 (by omega) (by omega) (by omega) (by omega)]; rfl
theorem bkv128 (n : Int) (h1 : 64 ≤ n) (h2 : n < 128) : ((bk n.toNat : Nat) : Int) = 128 := by rw [bk_at n.toNat 6 (by omega) (by omega) (by omega) (by omega)]; rfl
theorem bkv256 (n : Int) (h1 : 128 ≤ n) (h2 : n < 256) : ((bk n.toNat : Nat) : Int) = 256 := by rw [bk_at n.toNat 7 (by omega) (by omega) (by omega) (by omega)]; rfl
theorem bkv512 (n : Int) (h1 : 256 ≤ n) (h2 : n < 512) : ((bk n.toNat : Nat) : Int) = 512 := by rw [bk_at n.toNat 8 (by omega) (by omega) (by omega) (by omega)]; rfl
theorem bkv1024 (n : Int) (h1 : 512 ≤ n) (h2 : n < 1024) : ((bk n.toNat : Nat) : Int) = 1024 := by rw [bk_at n.toNat 9 (by omega) (by omega) (by omega) (by omega)]; rfl
theorem bkv2048 (n : Int) (h1 : 1024 ≤ n) (h2 : n < 2048) : ((bk n.toNat : Nat) : Int) = 2048 := by rw [bk_at n.toNat 10 (by omega) (by omega) (by omega) (by omega)]; rfl
theorem bkv4096 (n : Int) (h1 : 2048 ≤ n) (h2 : n < 4096) : ((bk n.toNat : Nat) : Int) = 4096 := by rw [bk_at n.toNat 11 (by omega) (by omega) (by omega) (by omega)]; rfl
theorem bkv8192 (n : Int) (h1 : 4096 ≤ n) (h2 : n < 8192) : ((bk n.toNat : Nat) : Int) = 8192 := by rw [bk_at n.toNat 12 (by omega) (by omega) (by omega) (by omega)]; rfl
theorem bkv16384 (n : Int) (h1 : 8192 ≤ n) (h2 : n < 16384) : ((bk n.toNat : Nat) : Int) = 16384 := by rw [bk_at n.toNat 13 (by omega) (by omega) (by omega) (by omega)]; rfl
theorem bkv32768 (n : Int) (h1 : 16384 ≤ n) (h2 : n < 32768) : ((bk n.toNat : Nat) : Int) = 32768 := by rw [bk_at n.toNat 14 (by omega) (by omega) (by omega) (by omega)]; rfl
theorem bkv65536 (n : Int) (h1 : 32768 ≤ n) (h2 : n < 65536) : ((bk n.toNat : Nat) : Int) = 65536 := by rw [bk_at n.toNat 15 (by omega) (by omega) (by omega) (by omega)]; rfl

theorem rbucket_neg (n : Int) (w : World) (h0 : n < 0) :
    Calls Try.prog 14 #[.int .i64 n] w fun e w' => e = .returned (.tuple #[.int .i64 0, .int .i64 1]) ∧ w = w' := by
  go_enter Try.func14, Try.ntmps14
  go_wp2_with fail
  go_ret2
  exact ⟨rfl, rfl⟩
/-- what the reference's Bucket tells, of a number not below 0 -/
def bucketIs (n : Int) (e : Ending) : Prop := (n < 65536 ∧ e = .returned (.tuple #[.int .i64 (bk n.toNat : Nat), .int .i64 0])) ∨ (65536 ≤ n ∧ e = .returned (.tuple #[.int .i64 0, .int .i64 2]))
def At14 (n : Int) (k : Value) : Prop := k = .int .i64 32 ∨ (k = .int .i64 64 ∧ 32 ≤ n) ∨ (k = .int .i64 128 ∧ 64 ≤ n) ∨ (k = .int .i64 256 ∧ 128 ≤ n) ∨ (k = .int .i64 512 ∧ 256 ≤ n) ∨ (k = .int .i64 1024 ∧ 512 ≤ n) ∨ (k = .int .i64 2048 ∧ 1024 ≤ n) ∨ (k = .int .i64 4096 ∧ 2048 ≤ n) ∨ (k = .int .i64 8192 ∧ 4096 ≤ n) ∨ (k = .int .i64 16384 ∧ 8192 ≤ n) ∨ (k = .int .i64 32768 ∧ 16384 ≤ n) ∨ (k = .int .i64 65536 ∧ 32768 ≤ n) ∨ (k = .int .i64 131072 ∧ 65536 ≤ n)
set_option maxRecDepth 100000 in
set_option maxHeartbeats 4000000 in
theorem rbucket_any (n : Int) (w : World) (h0 : 0 ≤ n) :
    Calls Try.prog 14 #[.int .i64 n] w fun e w' => bucketIs n e ∧ w = w' := by
  go_enter Try.func14, Try.ntmps14
  go_wp2_with fail
  go_loop [4] (fun k => At14 n k) (fun k => (131072 - intOf k).toNat)
  case atStart => exact .inl rfl
  case round =>
    rcases hrel with rfl | ⟨rfl, hg⟩ | ⟨rfl, hg⟩ | ⟨rfl, hg⟩ | ⟨rfl, hg⟩ | ⟨rfl, hg⟩ | ⟨rfl, hg⟩ | ⟨rfl, hg⟩ | ⟨rfl, hg⟩ | ⟨rfl, hg⟩ | ⟨rfl, hg⟩ | ⟨rfl, hg⟩ | ⟨rfl, hg⟩
    · by_cases hlt : n < 32
      · have E := Lib.hid (bkv32 n h0 hlt)
        go_wp2_with fail
        go_ret2
        exact ⟨.inl ⟨by omega, by rw [E.out]; rfl⟩, rfl⟩
      · go_wp2_with fail
        go_round
        case rel => exact .inr (.inl ⟨rfl, by omega⟩)
        case measure => decide
    · by_cases hlt : n < 64
      · have E := Lib.hid (bkv64 n hg hlt)
        go_wp2_with fail
        go_ret2
        exact ⟨.inl ⟨by omega, by rw [E.out]; rfl⟩, rfl⟩
      · go_wp2_with fail
        go_round
        case rel => exact .inr (.inr (.inl ⟨rfl, by omega⟩))
        case measure => decide
    · by_cases hlt : n < 128
      · have E := Lib.hid (bkv128 n hg hlt)
        go_wp2_with fail
        go_ret2
        exact ⟨.inl ⟨by omega, by rw [E.out]; rfl⟩, rfl⟩
      · go_wp2_with fail
        go_round
        case rel => exact .inr (.inr (.inr (.inl ⟨rfl, by omega⟩)))
        case measure => decide
    · by_cases hlt : n < 256
      · have E := Lib.hid (bkv256 n hg hlt)
        go_wp2_with fail
        go_ret2
        exact ⟨.inl ⟨by omega, by rw [E.out]; rfl⟩, rfl⟩
      · go_wp2_with fail
        go_round
        case rel => exact .inr (.inr (.inr (.inr (.inl ⟨rfl, by omega⟩))))
        case measure => decide
    · by_cases hlt : n < 512
      · have E := Lib.hid (bkv512 n hg hlt)
        go_wp2_with fail
        go_ret2
        exact ⟨.inl ⟨by omega, by rw [E.out]; rfl⟩, rfl⟩
      · go_wp2_with fail
        go_round
        case rel => exact .inr (.inr (.inr (.inr (.inr (.inl ⟨rfl, by omega⟩)))))
        case measure => decide
    · by_cases hlt : n < 1024
      · have E := Lib.hid (bkv1024 n hg hlt)
        go_wp2_with fail
        go_ret2
        exact ⟨.inl ⟨by omega, by rw [E.out]; rfl⟩, rfl⟩
      · go_wp2_with fail
        go_round
        case rel => exact .inr (.inr (.inr (.inr (.inr (.inr (.inl ⟨rfl, by omega⟩))))))
        case measure => decide
    · by_cases hlt : n < 2048
      · have E := Lib.hid (bkv2048 n hg hlt)
        go_wp2_with fail
        go_ret2
        exact ⟨.inl ⟨by omega, by rw [E.out]; rfl⟩, rfl⟩
      · go_wp2_with fail
        go_round
        case rel => exact .inr (.inr (.inr (.inr (.inr (.inr (.inr (.inl ⟨rfl, by omega⟩)))))))
        case measure => decide
    · by_cases hlt : n < 4096
      · have E := Lib.hid (bkv4096 n hg hlt)
        go_wp2_with fail
        go_ret2
        exact ⟨.inl ⟨by omega, by rw [E.out]; rfl⟩, rfl⟩
      · go_wp2_with fail
        go_round
        case rel => exact .inr (.inr (.inr (.inr (.inr (.inr (.inr (.inr (.inl ⟨rfl, by omega⟩))))))))
        case measure => decide
    · by_cases hlt : n < 8192
      · have E := Lib.hid (bkv8192 n hg hlt)
        go_wp2_with fail
        go_ret2
        exact ⟨.inl ⟨by omega, by rw [E.out]; rfl⟩, rfl⟩
      · go_wp2_with fail
        go_round
        case rel => exact .inr (.inr (.inr (.inr (.inr (.inr (.inr (.inr (.inr (.inl ⟨rfl, by omega⟩)))))))))
        case measure => decide
    · by_cases hlt : n < 16384
      · have E := Lib.hid (bkv16384 n hg hlt)
        go_wp2_with fail
        go_ret2
        exact ⟨.inl ⟨by omega, by rw [E.out]; rfl⟩, rfl⟩
      · go_wp2_with fail
        go_round
        case rel => exact .inr (.inr (.inr (.inr (.inr (.inr (.inr (.inr (.inr (.inr (.inl ⟨rfl, by omega⟩))))))))))
        case measure => decide
    · by_cases hlt : n < 32768
      · have E := Lib.hid (bkv32768 n hg hlt)
        go_wp2_with fail
        go_ret2
        exact ⟨.inl ⟨by omega, by rw [E.out]; rfl⟩, rfl⟩
      · go_wp2_with fail
        go_round
        case rel => exact .inr (.inr (.inr (.inr (.inr (.inr (.inr (.inr (.inr (.inr (.inr (.inl ⟨rfl, by omega⟩)))))))))))
        case measure => decide
    · by_cases hlt : n < 65536
      · have E := Lib.hid (bkv65536 n hg hlt)
        go_wp2_with fail
        go_ret2
        exact ⟨.inl ⟨by omega, by rw [E.out]; rfl⟩, rfl⟩
      · go_wp2_with fail
        go_round
        case rel => exact .inr (.inr (.inr (.inr (.inr (.inr (.inr (.inr (.inr (.inr (.inr (.inr (⟨rfl, by omega⟩))))))))))))
        case measure => decide
    · go_wp2_with fail
      go_ret2
      exact ⟨.inr ⟨hg, rfl⟩, rfl⟩
theorem rbucket_nat (n : Nat) (w : World) (h : n < 65536) : Calls Try.prog 14 #[.int .i64 (n : Int)] w fun e w' => e = .returned (.tuple #[.int .i64 (bk n : Nat), .int .i64 0]) ∧ w = w' :=
  (rbucket_any n w (by omega)).mono fun e w' ⟨h1, h2⟩ => ⟨by rcases h1 with ⟨_, h1⟩ | ⟨h1, _⟩ <;> first | (rw [Int.toNat_natCast] at h1; exact h1) | omega, h2⟩
theorem rbucket_big (n : Int) (w : World) (h : 65536 ≤ n) : Calls Try.prog 14 #[.int .i64 n] w fun e w' => e = .returned (.tuple #[.int .i64 0, .int .i64 2]) ∧ w = w' :=
  (rbucket_any n w (by omega)).mono fun e w' ⟨h1, h2⟩ => ⟨by rcases h1 with ⟨h1, _⟩ | ⟨_, h1⟩ <;> first | exact h1 | omega, h2⟩

theorem padL_steps (l : List UInt8) (j : Nat) : bv l ++ [.int .u8 128] ++ List.replicate j (.int .u8 0) = bv (l ++ 128 :: List.replicate j 0) := by simp [bv]

set_option maxRecDepth 100000 in
set_option maxHeartbeats 1000000 in
theorem rpad_ok (A : Option Addr) (n c : Nat) (l : List UInt8) (w : World) (h : Sl w A n c (bv l)) (hn : n < 65536) :
    Calls Try.prog 10 #[.slice A n c] w fun e w' => ∃ A' c', e = .returned (.tuple #[.slice A' (padL l).length c', .int .i64 0]) ∧ Sl w' A' (padL l).length c' (bv (padL l)) ∧ Below w.heap.size w w' := by
  have hl := h.len
  rw [bv_length] at hl
  have h1 := lt_bk n hn
  have h2 := bk_le n hn
  have h3 := Lib.hid (padL_length l (by omega))
  have hpl := Lib.hid (show padL l = l ++ 128 :: List.replicate (bk n - n - 1) 0 by rw [padL, hl])
  have H := Lib.hid hl; clear hl
  obtain ⟨m, hm⟩ : ∃ m, m = bk n := ⟨_, rfl⟩
  rw [← hm] at h1 h2
  have Hm := Lib.hid hm; clear hm
  go_enter Try.func10, Try.ntmps10
  go_wp2_with (first
    | (go_at_call 14; refine (rbucket_nat n _ hn).mono ?_; rw [← Hm.out]; rintro e w' ⟨rfl, rfl⟩)
    | (at_builtin; refine wpList_app0 (o := ⟨some 17, _, _, _, _, _⟩) w.heap.size E22 rfl rfl rfl rfl h.lies (by rw [bv_length, H.out, Nat.mul_one]) (bv_one l) (by unfold maxLen; omega) (by omega) (Nat.le_refl _) ?_; intro A1 c1 w1 hO1 hG1 hB1)
    | (at_builtin; refine wpList_app (o := ⟨some 19, _, _, _, _, _⟩) E22 rfl rfl rfl (hO1.alloc _) rfl (lies_new w1 (.int .u8 128) 5) rfl (by simp [Value.oneCell']) (by unfold maxLen; omega) (by omega) (by have := hB1.size; simp; omega) ?_; intro A2 c2 w2 hO2 hG2 hB2))
  have hB3 := Lib.hid ((hB1.alloc hB1.size (.cells #[.int .u8 128] 5)).trans hB2)
  go_loopw [6] (fun v wr => ∃ (j : Nat) (A' : Option Addr) (c' : Nat), n + 1 + j ≤ m ∧ v = .slice A' (n + 1 + j) c' ∧ Ow wr w.heap.size 5 1 A' (n + 1 + j) c' (bv l ++ [.int .u8 128] ++ List.replicate j (.int .u8 0)) ∧ Below w.heap.size w wr) (fun v _ => m - slen v)
  case atStart => exact ⟨0, A2, c2, by omega, by simp, by simpa using hO2, hB3.out⟩
  case round =>
    obtain ⟨j, A', c', hj, rfl, hO, hB⟩ := hrel
    by_cases hlt : n + 1 + j < m
    · go_wp2_with (at_builtin; refine wpList_app (o := ⟨some 26, _, _, _, _, _⟩) E22 rfl rfl rfl (hO.alloc _) rfl (lies_new wr (.int .u8 0) 5) rfl (by simp [Value.oneCell']) (by unfold maxLen; omega) (by omega) (by have := hB.size; simp; omega) ?_; intro A3 c3 w3 hO3 hG3 hB3)
      go_roundw
      case rel => exact ⟨j + 1, A3, c3, by omega, by rw [Nat.add_assoc (n + 1)], by rw [List.replicate_succ', ← List.append_assoc]; exact hO3, (hB.alloc hB.size _).trans hB3⟩
      case measure => simp only [slen_slice]; omega
    · have hje : bk n - n - 1 = j := by rw [← Hm.out]; omega
      have hme : n + 1 + j = m := by omega
      go_wp2
      go_ret2
      refine ⟨A', c', ?_, ?_, hB⟩
      · rw [h3.out, H.out, ← Hm.out, ← hme]; rfl
      · rw [h3.out, H.out, ← Hm.out, ← hme, hpl.out, hje, ← padL_steps]; exact hO.sl
theorem rpad_no (A : Option Addr) (n c : Nat) (w : World) (hn : 65536 ≤ n) (h2 : n ≤ maxLen) :
    Calls Try.prog 10 #[.slice A n c] w fun e w' => e = .returned (.tuple #[.slice none 0 0, .int .i64 2]) ∧ w = w' := by
  unfold maxLen at h2
  go_enter Try.func10, Try.ntmps10
  go_wp2_with (go_at_call 14; refine (rbucket_big _ _ (by omega)).mono ?_; rintro e w' ⟨rfl, rfl⟩)
  go_ret2
  exact ⟨rfl, rfl⟩
end Go.Proofs.Ytejhphjilmpfkaa
