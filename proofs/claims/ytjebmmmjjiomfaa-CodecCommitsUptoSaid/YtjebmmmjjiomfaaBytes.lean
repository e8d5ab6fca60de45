/- The walks of slices.Grow (from nil), slices.Concat, slices.Clone, at bytes. -/
import Derived.Test.YtjebmmmjjiomfaaInt
import Derived.Test.YtjebmmmjjiomfaaBase3
namespace Go.Proofs.Ytjebmmmjjiomfaa
open Go.RowKit

theorem grow_nil (n : Nat) (w : World) (hn : Hid (n ≤ 140737488355328)) :
    Calls Try.prog 94 #[.slice none 0 0, .int .i64 (n : Int)] w fun e w' => ∃ A c, e = .returned (.slice A 0 c) ∧ Ow w' w.heap.size 5 1 A 0 c [] ∧ Below w.heap.size w w' := by
  have i0 : 0 ≤ (n : Int) := by omega
  have i1 : (n : Int) ≤ 9223372036854775807 := by have := hn.out; omega
  rcases Nat.eq_zero_or_pos n with h0 | h0
  · subst h0
    go_enter Try.func94, Try.ntmps94
    go_wp2_with fail
    go_ret
    exact ⟨_, _, rfl, Ow.nil _ _ _ _, Below.refl _ _⟩
  · have i2 : 0 < (n : Int) := by omega
    go_enter Try.func94, Try.ntmps94
    go_wp2_with (at_builtin; refine wpList_zeros (o := ⟨some 22, _, _, _, _, _⟩) w.heap.size E23 rfl Try.underlying3 rfl rfl rfl n rfl (by omega) h0 (by have := hn.out; unfold maxLen; omega) (by have := hn.out; omega) (Nat.le_refl _) ?_; intro c w1 hc hO hB)
    go_ret
    exact ⟨_, _, rfl, by have := hO.trim (Nat.zero_le _); simpa using this, hB⟩

def tot (bss : List (List UInt8)) : Nat := (bss.map List.length).sum
theorem tot_take (bss : List (List UInt8)) (k : Nat) (l : List UInt8) (h : bss[k]? = some l) : tot (bss.take (k + 1)) = tot (bss.take k) + l.length := by
  unfold tot; rw [List.take_add_one, h]; simp
theorem tot_le (bss : List (List UInt8)) (k : Nat) : tot (bss.take k) ≤ tot bss := by
  have : tot bss = tot (bss.take k) + tot (bss.drop k) := by
    unfold tot; rw [← List.sum_append, ← List.map_append, List.take_append_drop]
  omega
theorem flat_take (bss : List (List UInt8)) (k : Nat) (l : List UInt8) (h : bss[k]? = some l) : (bss.take (k + 1)).flatten = (bss.take k).flatten ++ l := by
  rw [List.take_add_one, h]; simp
theorem flat_len (bss : List (List UInt8)) : bss.flatten.length = tot bss := by unfold tot; simp [List.length_flatten]

set_option maxRecDepth 100000 in
set_option maxHeartbeats 1000000 in
theorem concat_any (A : Option Addr) (n c : Nat) (xs : List Value) (bss : List (List UInt8)) (w : World) (h : Sl w A n c xs) (hb : BL w xs bss) (ht : Hid (tot bss ≤ 140737488355328)) :
    Calls Try.prog 59 #[.slice A n c] w fun e w' => ∃ A' c', e = .returned (.slice A' (tot bss) c') ∧ Ow w' w.heap.size 5 1 A' (tot bss) c' (bv bss.flatten) ∧ Below w.heap.size w w' := by
  have htop := h.top; have hcap := h.cap; unfold maxLen at htop
  have Hl := Lib.hid (show bss.length = n by rw [← hb.1]; exact h.len)
  go_enter Try.func59, Try.ntmps59
  go_wp2_with fail
  go_loop [3, 11] (fun s i => ∃ k : Nat, k ≤ n ∧ i = .int .i64 (k : Int) ∧ s = .int .i64 (tot (bss.take k) : Nat)) (fun _ i => n - (intOf i).toNat)
  case atStart => exact ⟨0, Nat.zero_le _, rfl, rfl⟩
  case round =>
    obtain ⟨k, hk, rfl, rfl⟩ := hrel
    by_cases hlt : k < n
    · obtain ⟨ad, u, rfl, hx, hc⟩ := h.at_ hlt
      obtain ⟨a, m, cc, l, rfl, hbl, hsl⟩ := hb.2 k u hx
      have hll := hsl.len; rw [bv_length] at hll
      have e1 := tot_take bss k l hbl
      rw [hll] at e1
      have e2 := tot_le bss (k + 1)
      obtain ⟨s, hs⟩ : ∃ s, tot (bss.take k) = s := ⟨_, rfl⟩
      rw [hs] at e1 ⊢
      have i1 : (s : Int) + m ≤ 140737488355328 := by have := ht.out; omega
      have i2 : 0 ≤ (s : Int) + m := by omega
      have HE := Lib.hid e1; clear e1 e2 hs hll hbl hx
      go_wp2_with fail
      go_round
      case rel => exact ⟨k + 1, by omega, by go_num, by rw [HE.out]; go_num⟩
      case measure => simp [intOf]; omega
    · obtain rfl : k = n := by omega
      have HT := Lib.hid (show bss.take k = bss by rw [← Hl.out, List.take_length])
      rw [HT.out]
      obtain ⟨T, hT⟩ : ∃ T, tot bss = T := ⟨_, rfl⟩
      rw [hT] at ht ⊢
      have HTT := Lib.hid hT; clear hT
      go_wp2_with (go_at_call 94; refine (grow_nil T w ht).mono ?_; rintro e w1 ⟨A1, c1, rfl, hO1, hB1⟩)
      go_loopw [6, 27] (fun v i wr => ∃ (j : Nat) (A' : Option Addr) (c' : Nat), j ≤ k ∧ i = .int .i64 (j : Int) ∧ v = .slice A' (tot (bss.take j)) c' ∧ Ow wr w.heap.size 5 1 A' (tot (bss.take j)) c' (bv (bss.take j).flatten) ∧ Below w.heap.size w wr) (fun _ i _ => k - (intOf i).toNat)
      case atStart => exact ⟨0, A1, c1, Nat.zero_le _, rfl, rfl, hO1, hB1⟩
      case round =>
        obtain ⟨j, A', c', hj, rfl, rfl, hO, hB⟩ := hrel
        by_cases hlt2 : j < k
        · obtain ⟨ad, u, rfl, hx, hc⟩ := (h.below hB).at_ hlt2
          obtain ⟨a, m, cc, l, rfl, hbl, hsl⟩ := (hb.keep hB).2 j u hx
          have hll := hsl.len; rw [bv_length] at hll
          have e1 := tot_take bss j l hbl
          rw [hll] at e1
          have e2 := tot_le bss (j + 1)
          have e3 := flat_take bss j l hbl
          have hbnd : tot (bss.take j) + m ≤ 140737488355328 := by have := ht.out; have := HTT.out; omega
          have HB := Lib.hid hbnd; have HE := Lib.hid e1; have HF := Lib.hid e3; have HLL := Lib.hid hll
          clear e1 e2 e3 hbl hx hbnd hll
          go_wp2_with (at_builtin; refine wpList_app (o := ⟨some 33, _, _, _, _, _⟩) E23 rfl rfl rfl hO rfl hsl.lies (by rw [bv_length, HLL.out, Nat.mul_one]) (bv_one l) (by have := HB.out; unfold maxLen; omega) (by have := HB.out; omega) hB.size ?_; intro A3 c3 w3 hO3 hG3 hB3)
          go_roundw
          case rel => exact ⟨j + 1, A3, c3, by omega, by go_num, by rw [HE.out], by rw [HE.out, HF.out, bv_append]; exact hO3, hB.trans hB3⟩
          case measure => simp [intOf]; omega
        · obtain rfl : j = k := by omega
          rw [HT.out, HTT.out] at hO ⊢
          go_wp2_with fail
          go_ret
          exact ⟨A', c', by rw [HTT.out]; rfl, by rw [HTT.out]; exact hO, hB⟩

theorem clone (A : Option Addr) (n c : Nat) (xs : List Value) (w : World) (h : Sl w A n c xs) (h1 : ∀ u ∈ xs, u.oneCell' = true) (hn : Hid (n ≤ 140737488355328)) :
    Calls Try.prog 91 #[.slice A n c] w fun e w' => ∃ A' c', e = .returned (.slice A' n c') ∧ Ow w' w.heap.size 5 1 A' n c' xs ∧ Below w.heap.size w w' := by
  have q := fun (w : World) => Lib.run_eql_slice_nil (P := Try.prog) w 23 5 A n c 0 0 Try.underlying23
  have hl := h.len
  rcases A with _ | ad
  · have h0 : xs = [] := by
      rcases h.lies with e | ⟨ad, e, _⟩
      · exact e
      · cases e
    subst h0
    obtain rfl : n = 0 := by simpa using hl.symm
    clear h1 h hl
    go_enter Try.func91, Try.ntmps91
    go_wp2_with fail
    go_ret
    exact ⟨_, _, rfl, Ow.nil _ _ _ _, Below.refl _ _⟩
  · have H := Lib.hid hl; clear hl
    go_enter Try.func91, Try.ntmps91
    go_wp2_with (at_builtin; refine wpList_app E23 rfl rfl rfl (World.ownsRow_made w #[] 0 (Nat.le_refl _) (by simp) rfl) rfl (h.lies.alloc _) (by rw [H.out, Nat.mul_one]) h1 (by have := hn.out; unfold maxLen; omega) (by have := hn.out; omega) (by simp) ?_; intro A' c' w' hO hG hB)
    go_ret
    refine ⟨A', c', ?_, ?_, ?_⟩
    · simp
    · simpa using hO
    · exact ((Below.refl _ w).alloc (Nat.le_refl _) _).trans hB

/-- a vector's bytes -/
def bytesL (x : List UInt8) : List UInt8 := intL x.length ++ x
theorem intL_le (n : Nat) : 1 ≤ (intL n).length ∧ (intL n).length ≤ 4 := by unfold intL; split <;> (try split) <;> simp
theorem bytesL_len (x : List UInt8) : (bytesL x).length = (intL x.length).length + x.length := by simp [bytesL]
theorem BL.two {w : World} {A B : Option Addr} {n c m d : Nat} {a b : List UInt8} (h : Sl w A n c (bv a)) (k : Sl w B m d (bv b)) : BL w [.slice A n c, .slice B m d] [a, b] :=
  ⟨rfl, fun j v hv => by
    match j, hv with
    | 0, hv => simp at hv; subst hv; exact ⟨A, n, c, a, rfl, rfl, h⟩
    | 1, hv => simp at hv; subst hv; exact ⟨B, m, d, b, rfl, rfl, k⟩⟩
set_option maxRecDepth 100000 in
theorem bytes_ok (A : Option Addr) (n c : Nat) (l : List UInt8) (w : World) (h : Sl w A n c (bv l)) (hn : Hid (n < 1073741824)) :
    Calls Try.prog 29 #[.slice A n c] w fun e w' => ∃ A' c', e = .returned (.tuple #[.slice A' (bytesL l).length c', .int .i64 0]) ∧ Ow w' w.heap.size 5 1 A' (bytesL l).length c' (bv (bytesL l)) ∧ Below w.heap.size w w' := by
  have hl := h.len; rw [bv_length] at hl
  have hi := fun W => int_ok n W hn.out
  have hle := intL_le n
  have ht : tot [intL n, l] = (bytesL l).length := by rw [bytesL_len, hl]; simp [tot, hl]
  have hf : [intL n, l].flatten = bytesL l := by simp [bytesL, hl]
  have hb : tot [intL n, l] ≤ 140737488355328 := by simp [tot, hl]; have := hn.out; omega
  have HI := Lib.hid hi; have HT := Lib.hid ht; have HF := Lib.hid hf; have HB := Lib.hid hb; clear hi hle ht hf hb hl
  go_enter Try.func29, Try.ntmps29
  go_wp2_with (go_at_call 16; refine (HI.out _).mono ?_; rintro e w1 ⟨A1, c1, rfl, hO1, hB1⟩)
  have hb2 := BL.two (hO1.sl.alloc (.cells #[.slice A1 (intL n).length c1, .slice A n c] 23)) ((h.below hB1).alloc _)
  refine (concat_any _ 2 2 _ [intL n, l] _ ⟨rfl, by omega, by unfold maxLen; omega, lies_cells w1 #[.slice A1 (intL n).length c1, .slice A n c] 23⟩ hb2 HB).mono ?_
  rintro e w2 ⟨A2, c2, rfl, hO2, hB2⟩
  go_wp2_with fail
  go_ret2
  refine ⟨A2, c2, by rw [← HT.out]; rfl, ?_, nx (nxa hB1 _) hB2⟩
  rw [← HT.out, ← HF.out]
  exact hO2.mono (by have := hB1.size; simp; omega)
theorem bytes_no (A : Option Addr) (n c : Nat) (w : World) (hn : Hid (1073741824 ≤ n)) (ht : n ≤ maxLen) :
    Calls Try.prog 29 #[.slice A n c] w fun e w' => e = .returned (.tuple #[.slice none 0 0, .int .i64 1]) ∧ w = w' := by
  unfold maxLen at ht
  have hi := fun W => int_no n W (.inr (by have := hn.out; omega))
  have HI := Lib.hid hi; clear hi
  go_enter Try.func29, Try.ntmps29
  go_wp2_with (go_at_call 16; refine (HI.out _).mono ?_; rintro e w' ⟨rfl, rfl⟩)
  go_ret2
  exact ⟨rfl, rfl⟩
end Go.Proofs.Ytjebmmmjjiomfaa
