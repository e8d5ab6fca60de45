/- The walks of the reference's Join and Opt, where lists are small. -/
import Derived.Test.YtjebmmmjjiomfaaRefWide
namespace Go.Proofs.Ytjebmmmjjiomfaa
open Go.RowKit

set_option maxRecDepth 100000 in
set_option maxHeartbeats 1000000 in
theorem rjoin_ok (A : Option Addr) (n c : Nat) (xs : List Value) (bss : List (List UInt8)) (w : World) (h : Sl w A n c xs) (hb : BL w xs bss) (h1 : Hid (∀ l ∈ bss, l.length < 1073741824)) (h2 : Hid ((jl bss).length < 1073741824)) :
    Calls Try.prog 26 #[.slice A n c] w fun e w' => ∃ A' c', e = .returned (.tuple #[.slice A' (bytesL (jl bss)).length c', .int .i64 0]) ∧ Ow w' w.heap.size 5 1 A' (bytesL (jl bss)).length c' (bv (bytesL (jl bss))) ∧ Below w.heap.size w w' := by
  have htop := h.top; have hcap := h.cap; unfold maxLen at htop
  have Hl := Lib.hid (show bss.length = n by rw [← hb.1]; exact h.len)
  go_enter Try.func26, Try.ntmps26
  go_wp2_with fail
  go_loopw [4, 11] (fun v i wr => ∃ (k : Nat) (A' : Option Addr) (c' : Nat), k ≤ n ∧ i = .int .i64 (k : Int) ∧ v = .slice A' (jl (bss.take k)).length c' ∧ Ow wr w.heap.size 5 1 A' (jl (bss.take k)).length c' (bv (jl (bss.take k))) ∧ Below w.heap.size w wr) (fun _ i _ => n - (intOf i).toNat)
  case atStart => exact ⟨0, none, 0, Nat.zero_le _, rfl, rfl, Ow.nil _ _ _ _, Below.refl _ _⟩
  case round =>
    obtain ⟨k, A', c', hk, rfl, rfl, hO, hB⟩ := hrel
    by_cases hlt : k < n
    · obtain ⟨ad, u, rfl, hx, hc⟩ := (h.below hB).at_ hlt
      obtain ⟨a, m, cc, l, rfl, hbl, hsl⟩ := (hb.keep hB).2 k u hx
      have hll := hsl.len; rw [bv_length] at hll
      have hm : m < 1073741824 := by rw [← hll]; exact h1.out l (List.mem_of_getElem? hbl)
      have e1 := jl_take bss k l hbl
      have e2 := jl_le bss (k + 1)
      rw [e1, List.length_append] at e2
      have e3 : (jl (bss.take k)).length + (bytesL l).length ≤ 1073741824 := by have := h2.out; omega
      obtain ⟨s, hs⟩ : ∃ s, (jl (bss.take k)).length = s := ⟨_, rfl⟩
      obtain ⟨b, hbb⟩ : ∃ b, (bytesL l).length = b := ⟨_, rfl⟩
      have e4 : (jl (bss.take (k + 1))).length = s + b := by rw [e1, List.length_append, hs, hbb]
      rw [hs] at hO e3 ⊢
      rw [hbb] at e3
      have hcall := rbytes_ok a m cc l wr hsl hm
      rw [hbb] at hcall
      have HC := Lib.hid hcall; have E1 := Lib.hid e1; have E3 := Lib.hid e3; have E4 := Lib.hid e4; have HBB := Lib.hid hbb
      clear hcall e1 e2 e3 e4 hbb hs hm hll hbl hx
      go_wp2_with (first
        | (go_at_call 30; refine HC.out.mono ?_; rintro e w1 ⟨A1, c1, rfl, hO1, hB1⟩)
        | (at_builtin; refine wpList_app (o := ⟨some 25, _, _, _, _, _⟩) E23 rfl rfl rfl (hO.below hB1) rfl hO1.lies (by rw [bv_length, HBB.out, Nat.mul_one]) (bv_one _) (by have := E3.out; unfold maxLen; omega) (by have := E3.out; omega) (Nat.le_trans hB.size hB1.size) ?_; intro A3 c3 w3 hO3 hG3 hB3))
      go_roundw
      case rel => exact ⟨k + 1, A3, c3, by omega, by go_num, by rw [E4.out], by rw [E4.out, E1.out, bv_append]; exact hO3, (hB.trans (hB1.mono hB.size)).trans hB3⟩
      case measure => simp [intOf]; omega
    · obtain rfl : k = n := by omega
      have HT := Lib.hid (show bss.take k = bss by rw [← Hl.out, List.take_length])
      rw [HT.out] at hO ⊢
      have hcall := fun W (hW : Sl W A' (jl bss).length c' (bv (jl bss))) => rbytes_ok A' (jl bss).length c' (jl bss) W hW h2
      have HC := Lib.hid hcall; clear hcall
      go_wp2_with (go_at_call 30; refine (HC.out _ hO.sl).mono ?_; rintro e w1 ⟨A1, c1, rfl, hO1, hB1⟩)
      go_ret2
      exact ⟨A1, c1, rfl, hO1.mono hB.size, hB.trans (hB1.mono hB.size)⟩

theorem ropt_none (A : Option Addr) (n c : Nat) (w : World) :
    Calls Try.prog 28 #[.slice A n c, .bool false] w fun e w' => ∃ A' c', e = .returned (.tuple #[.slice A' 1 c', .int .i64 0]) ∧ Ow w' w.heap.size 5 1 A' 1 c' (bv [0]) ∧ Below w.heap.size w w' := by
  go_enter Try.func28, Try.ntmps28
  go_wp2_with fail
  go_ret2
  exact ⟨_, 1, rfl, World.ownsRow_lit w #[.int .u8 0] 1 (Nat.le_refl _) (by unfold maxLen; omega) rfl, nxa (Below.refl _ _) _⟩
theorem ropt_some (A : Option Addr) (n c : Nat) (l : List UInt8) (w : World) (h : Sl w A n c (bv l)) (hn : Hid (n < 1073741824)) :
    Calls Try.prog 28 #[.slice A n c, .bool true] w fun e w' => ∃ A' c', e = .returned (.tuple #[.slice A' (1 :: bytesL l).length c', .int .i64 0]) ∧ Ow w' w.heap.size 5 1 A' (1 :: bytesL l).length c' (bv (1 :: bytesL l)) ∧ Below w.heap.size w w' := by
  have hl := h.len; rw [bv_length] at hl
  have hb := rbytes_ok A n c l w h hn
  have e1 := bytesL_len l
  have e2 := intL_le l.length
  obtain ⟨m, hm⟩ : ∃ m, (bytesL l).length = m := ⟨_, rfl⟩
  rw [List.length_cons]
  rw [hm] at hb e1 ⊢
  have HM : Hid (m + 1 ≤ 140737488355328) := Lib.hid (by have := hn.out; omega)
  have HMM := Lib.hid hm
  have HC := Lib.hid hb; clear hb e1 e2 hl hm
  go_enter Try.func28, Try.ntmps28
  go_wp2_with fail
  refine HC.out.mono ?_; rintro e w1 ⟨A1, c1, rfl, hO1, hB1⟩
  have hN : Ow (w1.alloc (.cells #[.int .u8 1] 5)) w.heap.size 5 1 (some ⟨w1.heap.size, 0, none⟩) 1 1 [.int .u8 1] := World.ownsRow_lit w1 #[.int .u8 1] 1 hB1.size (by unfold maxLen; omega) rfl
  have s1 := hO1.sl.alloc (.cells #[.int .u8 1] 5)
  have hB2 := hB1.alloc hB1.size (.cells #[.int .u8 1] 5)
  have hz := hB2.size
  go_wp2_with (at_builtin; refine wpList_app (o := ⟨some 21, _, _, _, _, _⟩) E23 rfl rfl rfl hN rfl s1.lies (by rw [bv_length, HMM.out, Nat.mul_one]) (bv_one _) (by have := HM.out; unfold maxLen; omega) (by have := HM.out; omega) hz ?_; intro A3 c3 w3 hO3 hG3 hB3)
  go_ret2
  rw [Nat.add_comm 1 m] at hO3 ⊢
  exact ⟨A3, c3, rfl, hO3, hB2.trans hB3⟩
end Go.Proofs.Ytjebmmmjjiomfaa
