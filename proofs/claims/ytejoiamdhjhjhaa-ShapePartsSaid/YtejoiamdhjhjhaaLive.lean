/- The walks of the law's 'live' and 'few', and of shape.Alike. -/
import Derived.Test.YtejoiamdhjhjhaaKinds
namespace Go.Proofs.Ytejoiamdhjhjhaa
open Go.RowKit

theorem alike_any (A B : Option Addr) (n m c d : Nat) (l l' : List St) (w : World) (h : Ss w A n c l) (k : Ss w B m d l') (hn : n ≤ 1000) (hm : m ≤ 1000) (hw : Hid (∀ s ∈ l, StWf s)) (hw' : Hid (∀ s ∈ l', StWf s)) :
    Calls Try.prog 11 #[.slice A n c, .slice B m d] w fun e w' => ∃ b, e = .returned (.bool b) ∧ (b = true → canL l = canL l') ∧ Below w.heap.size w w' := by
  have H1 := Lib.hid (fun W hW => can_ok A n c l W hW hn hw)
  have H2 := Lib.hid (fun W hW => can_ok B m d l' W hW hm hw')
  have HL := Lib.hid h.len
  have HK := Lib.hid k.len
  go_enter Try.func11, Try.ntmps11
  go_wp2_with fail
  refine (H1.out _ h).mono ?_; rintro e w1 ⟨A1, c1, rfl, hO1, hB1⟩
  go_wp2_with fail
  refine (H2.out _ (k.below hB1)).mono ?_; rintro e w2 ⟨A2, c2, rfl, hO2, hB2⟩
  have s1 := (hO1.ss (by rw [canL, List.length_map]; exact HL.out)).below hB2
  have s2 := hO2.ss (by rw [canL, List.length_map]; exact HK.out)
  go_wp2_with fail
  refine (equal_any _ _ _ _ _ _ _ _ _ s1 s2).mono ?_; rintro e w3 ⟨b, rfl, hb, hB3⟩
  go_wp2_with fail
  go_ret
  exact ⟨b, rfl, hb, nx (nx hB1 hB2) hB3⟩
def BoolIs (e : Ending) (p : Prop) : Prop := ∃ b, e = .returned (.bool b) ∧ (b = true ↔ p)
def slen : Value → Nat | .slice _ n _ => n | _ => 0
set_option maxHeartbeats 1000000 in
theorem few_any (A : Option Addr) (n c : Nat) (xs : List Value) (w : World) (h : Sl w A n c xs) (hs : ∀ v ∈ xs, ∃ a m c, v = .slice a m c) :
    Calls Try.prog 9 #[.slice A n c] w fun e w' => BoolIs e (∀ v ∈ xs, slen v ≤ 300) ∧ w = w' := by
  have htop := h.top; have hcap := h.cap; unfold maxLen at htop
  have Hl := Lib.hid h.len
  go_enter Try.func9, Try.ntmps9
  go_wp2_with fail
  go_loop [7] (fun i => ∃ k : Nat, k ≤ n ∧ i = .int .i64 k ∧ Hid (∀ j v, j < k → xs[j]? = some v → slen v ≤ 300)) (fun i => n - (intOf i).toNat)
  case atStart => exact ⟨0, Nat.zero_le _, rfl, fun j v hj => absurd hj (Nat.not_lt_zero _)⟩
  case round =>
    obtain ⟨k, hk, rfl, ha⟩ := hrel
    by_cases hlt : k < n
    · obtain ⟨ad, u, rfl, hx, hc⟩ := h.at_ hlt
      obtain ⟨a, m, cc, rfl⟩ := hs u (List.mem_of_getElem? hx)
      have HX := Lib.hid hx; clear hx
      by_cases hm : m ≤ 300
      · have t : decide ((300 : Int) < (m : Int)) = false := decide_eq_false (by omega)
        go_wp2_with fail
        go_round
        case rel => exact ⟨k + 1, by omega, by go_num, fun j v hj hv => by
          by_cases e : j = k
          · subst e; rw [HX.out] at hv; injection hv with hv; subst hv; exact hm
          · exact ha.out j v (by omega) hv⟩
        case measure => simp [intOf]; omega
      · have t : decide ((300 : Int) < (m : Int)) = true := decide_eq_true (by omega)
        go_wp2_with fail
        go_ret
        exact ⟨⟨false, rfl, ⟨fun h => (by cases h), fun h => absurd (h _ (List.mem_of_getElem? HX.out)) hm⟩⟩, rfl⟩
    · obtain rfl : k = n := by omega
      go_wp2_with fail
      go_ret
      refine ⟨⟨true, rfl, ⟨fun _ v hv => ?_, fun _ => rfl⟩⟩, rfl⟩
      obtain ⟨j, hj⟩ := List.getElem?_of_mem hv
      exact ha.out j v (by have := (List.getElem?_eq_some_iff.1 hj).1; rw [Hl.out] at this; exact this) hj
def ll : List St := [⟨3, 3, 0⟩, ⟨4, 3, 1⟩]
theorem ll_act : actL ll = [3, 1] := by decide +kernel
theorem ll_can : canL ll = [⟨3, 0, 0⟩, ⟨4, 0, 1⟩] := rfl
theorem ll_kin : kcnt ll 3 = 1 := by decide +kernel
theorem ll_wf : ∀ s ∈ ll, StWf s := by
  intro s hs
  simp [ll] at hs
  rcases hs with rfl | rfl <;> (unfold StWf Wf; simp)
theorem ss_two (w : World) (s t : St) (g : Nat) (hg : w.heap.size = g) : Ss (w.alloc (.cells #[.int .i64 s.d, .int .i64 s.who, .int .i64 s.of, .int .i64 t.d, .int .i64 t.who, .int .i64 t.of] 31)) (some ⟨g, 0, none⟩) 2 2 [s, t] := by
  subst hg
  exact Ss.of_lies rfl (Nat.le_refl _) (by unfold maxLen; omega) (lies_cells w #[.int .i64 s.d, .int .i64 s.who, .int .i64 s.of, .int .i64 t.d, .int .i64 t.who, .int .i64 t.of] 31)
theorem lAct (A : Option Addr) (c : Nat) (w : World) (h : Ss w A 2 c ll) : Calls Try.prog 10 #[.slice A 2 c] w fun e w' => ∃ A' c', e = .returned (.slice A' 2 c') ∧ Sl w' A' 2 c' (iv [3, 1]) ∧ Below w.heap.size w w' :=
  (act_ok A 2 c ll w h (by omega) (Lib.hid ll_wf)).mono fun e w' ⟨A', c', a, b, d⟩ => by rw [ll_act] at a b; exact ⟨A', c', a, b.sl, d⟩
theorem lCan (A : Option Addr) (c : Nat) (w : World) (h : Ss w A 2 c ll) : Calls Try.prog 12 #[.slice A 2 c] w fun e w' => ∃ A' c', e = .returned (.slice A' 2 c') ∧ Ss w' A' 2 c' [⟨3, 0, 0⟩, ⟨4, 0, 1⟩] ∧ Below w.heap.size w w' :=
  (can_ok A 2 c ll w h (by omega) (Lib.hid ll_wf)).mono fun e w' ⟨A', c', a, b, d⟩ => by rw [ll_can] at b; exact ⟨A', c', a, b.ss rfl, d⟩
theorem ll_kag : kagg (kcnt ll) = .agg #[.int .i64 0, .int .i64 0, .int .i64 0, .int .i64 1, .int .i64 1, .int .i64 0, .int .i64 0, .int .i64 0] := by
  have h0 : kcnt ll 0 = 0 := by decide +kernel
  have h1 : kcnt ll 1 = 0 := by decide +kernel
  have h2 : kcnt ll 2 = 0 := by decide +kernel
  have h3 : kcnt ll 3 = 1 := by decide +kernel
  have h4 : kcnt ll 4 = 1 := by decide +kernel
  have h5 : kcnt ll 5 = 0 := by decide +kernel
  have h6 : kcnt ll 6 = 0 := by decide +kernel
  have h7 : kcnt ll 7 = 0 := by decide +kernel
  unfold kagg
  rw [h0, h1, h2, h3, h4, h5, h6, h7]
  rfl
theorem lKin (A : Option Addr) (c : Nat) (w : World) (h : Ss w A 2 c ll) : Calls Try.prog 15 #[.slice A 2 c] w fun e w' => e = .returned (.agg #[.int .i64 0, .int .i64 0, .int .i64 0, .int .i64 1, .int .i64 1, .int .i64 0, .int .i64 0, .int .i64 0]) ∧ Below w.heap.size w w' :=
  (kinds_ok A 2 c ll w h (by omega)).mono fun e w' ⟨a, d⟩ => by rw [ll_kag] at a; exact ⟨a, d⟩
set_option maxRecDepth 100000 in
set_option maxHeartbeats 1000000 in
theorem lead (w : World) : Calls Try.prog 8 #[] w fun e w' => e = .returned (.bool true) ∧ Below w.heap.size w w' := by
  go_enter Try.func8, Try.ntmps8
  go_wp2_with fail
  have h0 := ss_two w ⟨3, 3, 0⟩ ⟨4, 3, 1⟩ w.heap.size rfl
  refine (lAct _ _ _ h0).mono ?_; rintro e w1 ⟨A1, c1, rfl, hS1, hB1⟩
  have h1 := h0.below hB1
  go_wp2_with fail
  have hS1' := hS1.alloc (.cells #[.int .i64 3, .int .i64 1] 3)
  have hS2 : Sl (w1.alloc (.cells #[.int .i64 3, .int .i64 1] 3)) (some ⟨w1.heap.size, 0, none⟩) 2 2 (iv [3, 1]) := ⟨rfl, by omega, by unfold maxLen; omega, lies_cells w1 #[.int .i64 3, .int .i64 1] 3⟩
  refine (ints_yes _ _ 2 _ _ [3, 1] _ hS1' hS2).mono ?_; rintro e w2 ⟨rfl, hB2⟩
  have h2 := (h1.alloc (.cells #[.int .i64 3, .int .i64 1] 3)).below hB2
  go_wp2_with fail
  refine (lCan _ _ _ h2).mono ?_; rintro e w3 ⟨A3, c3, rfl, hS3, hB3⟩
  have h3 := h2.below hB3
  go_wp2_with fail
  refine (same_yes _ _ 2 _ _ _ _ (hS3.alloc _) (ss_two w3 ⟨3, 0, 0⟩ ⟨4, 0, 1⟩ w3.heap.size rfl)).mono ?_; rintro e w4 ⟨rfl, hB4⟩
  have h4 := (h3.alloc (.cells #[.int .i64 3, .int .i64 0, .int .i64 0, .int .i64 4, .int .i64 0, .int .i64 1] 31)).below hB4
  go_wp2_with fail
  have x0 : ∀ w : World, (Instr.index 33 (.agg #[.int .i64 0, .int .i64 0, .int .i64 0, .int .i64 1, .int .i64 1, .int .i64 0, .int .i64 0, .int .i64 0]) (.int .i64 3)).run Try.prog w = .ok (.int .i64 1) w := fun _ => by kernel_rfl
  refine (lKin _ _ _ h4).mono ?_; rintro e w5 ⟨rfl, hB5⟩
  go_wp2_with fail
  go_ret
  exact ⟨rfl, nx (nx (nxa (nx (nx (nxa (nx ((Below.refl _ w).alloc (Nat.le_refl _) _) hB1) _) hB2) hB3) _) hB4) hB5⟩
end Go.Proofs.Ytejoiamdhjhjhaa
