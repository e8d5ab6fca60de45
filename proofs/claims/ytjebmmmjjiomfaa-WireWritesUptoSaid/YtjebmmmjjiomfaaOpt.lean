/- The walks of wire.Opt and wire.TakeOpt. -/
import Derived.Test.YtjebmmmjjiomfaaInsert
namespace Go.Proofs.Ytjebmmmjjiomfaa
open Go.RowKit

theorem opt_none (A : Option Addr) (n c : Nat) (w : World) :
    Calls Try.prog 27 #[.slice A n c, .bool false] w fun e w' => ∃ A' c', e = .returned (.tuple #[.slice A' 1 c', .int .i64 0]) ∧ Ow w' w.heap.size 5 1 A' 1 c' (bv [0]) ∧ Below w.heap.size w w' := by
  go_enter Try.func27, Try.ntmps27
  go_wp2_with fail
  go_ret2
  exact ⟨_, 1, rfl, World.ownsRow_lit w #[.int .u8 0] 1 (Nat.le_refl _) (by unfold maxLen; omega) rfl, nxa (Below.refl _ _) _⟩
theorem opt_some (A : Option Addr) (n c : Nat) (l : List UInt8) (w : World) (h : Sl w A n c (bv l)) (hn : Hid (n < 1073741824)) :
    Calls Try.prog 27 #[.slice A n c, .bool true] w fun e w' => ∃ A' c', e = .returned (.tuple #[.slice A' (1 :: bytesL l).length c', .int .i64 0]) ∧ Ow w' w.heap.size 5 1 A' (1 :: bytesL l).length c' (bv (1 :: bytesL l)) ∧ Below w.heap.size w w' := by
  have hl := h.len; rw [bv_length] at hl
  have hb := bytes_ok A n c l w h hn
  have e1 := bytesL_len l
  have e2 := intL_le l.length
  obtain ⟨m, hm⟩ : ∃ m, (bytesL l).length = m := ⟨_, rfl⟩
  rw [List.length_cons]
  rw [hm] at hb e1 ⊢
  have hm1 : 0 < m := by omega
  have HM : Hid (m + 1 ≤ 140737488355328) := Lib.hid (by have := hn.out; omega)
  have HC := Lib.hid hb; clear hb e1 e2 hl hm
  go_enter Try.func27, Try.ntmps27
  go_wp2_with (first
    | (go_at_call 29; refine HC.out.mono ?_; rintro e w1 ⟨A1, c1, rfl, hO1, hB1⟩)
    | (go_at_call 58; refine (insert0 w.heap.size A1 m c1 (bytesL l) w1 hO1 hm1 HM hB1.size).mono ?_; rintro e w2 ⟨A2, c2, rfl, hO2, hB2⟩))
  go_ret2
  exact ⟨A2, c2, rfl, hO2, (hB1.alloc hB1.size _).trans hB2⟩

theorem results_tmp4 {fn : Func} {t u v x : Tmp} (h : fn.results = #[.tmp t, .tmp u, .tmp v, .tmp x]) (tmps : Array Value) (P : Program) (w : World) :
    (results fn tmps).run P w = .ok (.tuple #[tmps.getD t undef, tmps.getD u undef, tmps.getD v undef, tmps.getD x undef]) w := by
  simp [results, h]

/-- what is read as an option: the bytes, whether there are any, how many were read, the error -/
def takeO (l : List UInt8) : List UInt8 × Bool × Nat × Nat :=
  match l with
  | [] => ([], false, 0, 10)
  | b :: r =>
    if 1 < b.toNat then ([], false, 0, 11)
    else if b.toNat = 0 then ([], false, 1, 0)
    else if (takeB r).2.2 ≠ 0 then ([], false, 0, (takeB r).2.2)
    else ((takeB r).1, true, (takeB r).2.1 + 1, 0)

theorem takeB_le (l : List UInt8) : (takeB l).2.1 ≤ l.length := by
  unfold takeB
  by_cases h : (takeI l).2.2 = 0
  · rw [if_neg (by simp [h])]
    have := int_take l (takeI l).1 (takeI l).2.1 (by rw [← h])
    split
    · exact Nat.zero_le _
    · show _ + _ ≤ _; omega
  · rw [if_pos h]; exact Nat.zero_le _
set_option maxRecDepth 100000 in
set_option maxHeartbeats 1000000 in
theorem takeO_any (A : Option Addr) (n c : Nat) (l : List UInt8) (w : World) (h : Sl w A n c (bv l)) (hn : Hid (n ≤ 140737488355328)) :
    Calls Try.prog 31 #[.slice A n c] w fun e w' => ∃ A' c', e = .returned (.tuple #[.slice A' (takeO l).1.length c', .bool (takeO l).2.1, .int .i64 ((takeO l).2.2.1 : Nat), .int .i64 ((takeO l).2.2.2 : Nat)]) ∧ Ow w' w.heap.size 5 1 A' (takeO l).1.length c' (bv (takeO l).1) ∧ Below w.heap.size w w' := by
  have htop := h.top; have hcap := h.cap; unfold maxLen at htop
  have hl := h.len; rw [bv_length] at hl
  rcases l with _ | ⟨b, r⟩
  · obtain rfl : n = 0 := by simpa using hl.symm
    go_enter Try.func31, Try.ntmps31
    go_wp2_with fail
    ((try simp only [Exit.inBlock, Exit.then]); refine bodyPost_ret (results_tmp4 rfl _ _ _) rfl ?_)
    exact ⟨none, 0, rfl, Ow.nil _ _ _ _, Below.refl _ _⟩
  · obtain ⟨m, rfl⟩ : ∃ m, n = m + 1 := ⟨r.length, by simpa using hl.symm⟩
    obtain ⟨ad, hl0, rfl, hc⟩ := h.byte (k := 0) (by omega)
    have hc0 : w.cell? ad = some (.int .u8 (b.toNat : Int)) := hc
    clear hc
    by_cases h1 : 1 < b.toNat
    · have e : takeO (b :: r) = ([], false, 0, 11) := by show (if _ then _ else _) = _; rw [if_pos h1]
      rw [e]
      go_enter Try.func31, Try.ntmps31
      go_wp2_with fail
      ((try simp only [Exit.inBlock, Exit.then]); refine bodyPost_ret (results_tmp4 rfl _ _ _) rfl ?_)
      exact ⟨none, 0, rfl, Ow.nil _ _ _ _, Below.refl _ _⟩
    · by_cases h0 : b.toNat = 0
      · have e : takeO (b :: r) = ([], false, 1, 0) := by show (if _ then _ else _) = _; rw [if_neg h1, if_pos h0]
        rw [e]
        rw [h0] at hc0
        go_enter Try.func31, Try.ntmps31
        go_wp2_with fail
        ((try simp only [Exit.inBlock, Exit.then]); refine bodyPost_ret (results_tmp4 rfl _ _ _) rfl ?_)
        exact ⟨none, 0, rfl, Ow.nil _ _ _ _, Below.refl _ _⟩
      · have hb1 : b.toNat = 1 := by omega
        rw [hb1] at hc0
        have hsub := h.sub (lo := 1) (hi := m + 1) (by omega) (by omega)
        rw [List.take_of_length_le (by rw [bv_length]; omega), ← bv_drop, List.drop_one, List.tail_cons] at hsub
        have hT : takeO (b :: r) = if (takeB r).2.2 ≠ 0 then ([], false, 0, (takeB r).2.2) else ((takeB r).1, true, (takeB r).2.1 + 1, 0) := by
          show (if _ then _ else _) = _; rw [if_neg h1, if_neg h0]
        have hle := takeB_le r
        have hcall : ∀ A', Sl w A' m (c - 1) (bv r) → Calls Try.prog 57 #[.slice A' m (c - 1)] w (TB r w) := fun A' h => takeB_any A' m (c - 1) r w h (Lib.hid (by have := hn.out; omega))
        unfold TB at hcall
        obtain ⟨x, hx⟩ : ∃ x, (takeB r).1 = x := ⟨_, rfl⟩
        obtain ⟨k, hk⟩ : ∃ k, (takeB r).2.1 = k := ⟨_, rfl⟩
        obtain ⟨q, hq⟩ : ∃ q, (takeB r).2.2 = q := ⟨_, rfl⟩
        rw [hx, hk, hq] at hT
        rw [hk] at hle
        simp only [hx, hk, hq] at hcall
        have HC := Lib.hid hcall; have HT := Lib.hid hT; clear hcall hT hx hk hq
        have hkm : (k : Int) ≤ 9223372036854775806 := by have := hn.out; simp at hl; omega
        simp only [Nat.add_sub_cancel] at hsub
        by_cases q0 : q = 0
        · subst q0
          rw [if_neg (by simp)] at HT
          rw [HT.out]
          by_cases hc1 : c = 1
          · subst hc1
            rw [if_pos rfl] at hsub
            obtain rfl : m = 0 := by omega
            go_enter Try.func31, Try.ntmps31
            go_wp2_with (go_at_call 57; refine (HC.out _ hsub).mono ?_; rintro e w1 ⟨A1, c1, rfl, hO1, hB1⟩)
            ((try simp only [Exit.inBlock, Exit.then]); refine bodyPost_ret (results_tmp4 rfl _ _ _) rfl ?_)
            exact ⟨A1, c1, rfl, hO1, hB1⟩
          · rw [if_neg hc1] at hsub
            go_enter Try.func31, Try.ntmps31
            go_wp2_with (go_at_call 57; refine (HC.out _ hsub).mono ?_; rintro e w1 ⟨A1, c1, rfl, hO1, hB1⟩)
            ((try simp only [Exit.inBlock, Exit.then]); refine bodyPost_ret (results_tmp4 rfl _ _ _) rfl ?_)
            exact ⟨A1, c1, rfl, hO1, hB1⟩
        · rw [if_pos q0] at HT
          rw [HT.out]
          have q1 : ((q : Int) == 0) = false := by simp; omega
          have q2 : (q == 0) = false := by simp; omega
          by_cases hc1 : c = 1
          · subst hc1
            rw [if_pos rfl] at hsub
            obtain rfl : m = 0 := by omega
            go_enter Try.func31, Try.ntmps31
            go_wp2_with (go_at_call 57; refine (HC.out _ hsub).mono ?_; rintro e w1 ⟨A1, c1, rfl, hO1, hB1⟩)
            ((try simp only [Exit.inBlock, Exit.then]); refine bodyPost_ret (results_tmp4 rfl _ _ _) rfl ?_)
            exact ⟨none, 0, rfl, Ow.nil _ _ _ _, hB1⟩
          · rw [if_neg hc1] at hsub
            go_enter Try.func31, Try.ntmps31
            go_wp2_with (go_at_call 57; refine (HC.out _ hsub).mono ?_; rintro e w1 ⟨A1, c1, rfl, hO1, hB1⟩)
            ((try simp only [Exit.inBlock, Exit.then]); refine bodyPost_ret (results_tmp4 rfl _ _ _) rfl ?_)
            exact ⟨none, 0, rfl, Ow.nil _ _ _ _, hB1⟩
end Go.Proofs.Ytjebmmmjjiomfaa
