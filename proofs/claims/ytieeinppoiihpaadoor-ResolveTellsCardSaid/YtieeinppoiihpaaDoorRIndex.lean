/- The walk of slices.IndexFunc, over any function value that tells of a number whether it is sought, and of the closures of Mine and Except. -/
import Derived.Test.YtieeinppoiihpaaDoorRHold
namespace Go.Proofs.YtieeinppoiihpaaDoor
open Go.RowKit

/-- the first that is sought -/
def First (l : List Int) (p : Int → Bool) (z : Int) : Prop := (z = -1 ∧ ∀ y ∈ l, p y = false) ∨ ∃ (k : Nat) (y : Int), z = (k : Int) ∧ l[k]? = some y ∧ p y = true ∧ ∀ u ∈ l.take k, p u = false
set_option maxRecDepth 100000 in
theorem idxf_ok (f : Nat) (cap : Array Value) (p : Int → Bool) (A : Option Addr) (n c : Nat) (l : List Int) (w : World) (h : Sl w A n c (iv l)) (hcf : ∀ (args : Array Value) (w : World), (callFunc f args).run Tryd.prog w = .ok (.enter f args) w) (hf : Hid (∀ x ∈ l, Calls Tryd.prog f (#[.int .i64 x] ++ cap) w fun e w' => e = .returned (.bool (p x)) ∧ w = w')) :
    Calls Tryd.prog 75 #[.slice A n c, .func (.func f) #[] cap] w fun e w' => ∃ z, e = .returned (.int .i64 z) ∧ First l p z ∧ w = w' := by
  have HL : Hid (l.length = n) := Lib.hid (by have := h.len; rwa [iv_length] at this)
  have hL0 : n ≤ 9223372036854775807 := by have h1 := h.top; have h2 := h.cap; unfold maxLen at h1; omega
  go_enter Tryd.func75, Tryd.ntmps75
  go_wp2_with fail
  go_loop [8] (fun i => ∃ k : Nat, k ≤ n ∧ i = .int .i64 (k : Int) ∧ Hid (∀ u ∈ l.take k, p u = false)) (fun i => n - (intOf i).toNat)
  case atStart => exact ⟨0, Nat.zero_le _, rfl, Lib.hid (by simp)⟩
  case round =>
    obtain ⟨k, hk, rfl, ha⟩ := hrel
    by_cases hlt : k < n
    · obtain ⟨au, hlu, rfl, hcu⟩ := h.int hlt
      obtain ⟨y, hy⟩ : ∃ y, l[k]'hlu = y := ⟨_, rfl⟩
      have hy2 : l[k]? = some y := by rw [List.getElem?_eq_getElem hlu, hy]
      rw [hy] at hcu
      have HC := Lib.hid (hf.out y (List.mem_of_getElem? hy2))
      have HY := Lib.hid hy2
      obtain ⟨b, hb⟩ : ∃ b, p y = b := ⟨_, rfl⟩
      rw [hb] at HC
      have HB := Lib.hid hb
      clear hb hy hy2
      go_wp2_with fail
      refine HC.out.mono ?_; rintro e w' ⟨rfl, rfl⟩
      cases b
      · have HN : Hid (∀ u ∈ l.take (k + 1), p u = false) := Lib.hid (fun u hu => by
          rw [List.take_add_one, HY.out, Option.toList_some] at hu
          rcases List.mem_append.1 hu with hu | hu
          · exact ha.out u hu
          · simp at hu; subst hu; exact HB.out)
        go_wp2_with fail
        go_round
        case rel => exact ⟨k + 1, by omega, by go_num, HN⟩
        case measure => simp [intOf]; omega
      · go_wp2_with fail
        go_ret
        exact ⟨_, rfl, .inr ⟨k, y, rfl, HY.out, HB.out, ha.out⟩, rfl⟩
    · obtain rfl : k = n := by omega
      have HA : Hid (∀ u ∈ l, p u = false) := Lib.hid (by have := ha.out; rwa [← HL.out, List.take_length] at this)
      go_wp2_with fail
      go_ret
      exact ⟨_, rfl, .inl ⟨rfl, HA.out⟩, rfl⟩
theorem cf76 (args : Array Value) (w : World) : (callFunc 76 args).run Tryd.prog w = .ok (.enter 76 args) w := by kernel_rfl
theorem cf79 (args : Array Value) (w : World) : (callFunc 79 args).run Tryd.prog w = .ok (.enter 79 args) w := by kernel_rfl
theorem exc_ok (g : Nat) (x : Int) (A : Option Addr) (n c : Nat) (l : List Int) (w : World) (hc : w.cell? ⟨g, 0, none⟩ = some (.slice A n c)) (h : Sl w A n c (iv l)) (hx : 0 ≤ x ∧ x ≤ 1000000) :
    Calls Tryd.prog 79 (#[.int .i64 x] ++ #[.pointer (some ⟨g, 0, none⟩)]) w fun e w' => e = .returned (.bool (decide (x % 2 = 0 ∧ x / 2 ∈ l))) ∧ w = w' := by
  have hb : bits .and .i64 x 1 = x % 2 := by
    obtain ⟨k, rfl⟩ : ∃ k : Nat, x = k := ⟨x.toNat, by omega⟩
    unfold bits
    rw [IntKind.wrap_i64]
    show ((((BitVec.ofInt 64 (k : Int) &&& BitVec.ofInt 64 1).toNat : Int) + 9223372036854775808) % 18446744073709551616 - 9223372036854775808 = _)
    have e1 : (BitVec.ofInt 64 (k : Int) &&& BitVec.ofInt 64 1).toNat = k % 2 := by
      rw [BitVec.toNat_and]
      have h1 : (BitVec.ofInt 64 (k : Int)).toNat = k := by rw [BitVec.toNat_ofInt]; simp; omega
      have h2 : (BitVec.ofInt 64 (1 : Int)).toNat = 1 := by decide
      rw [h1, h2, Nat.and_one_is_mod]
    rw [e1]; omega
  show Calls Tryd.prog 79 #[.int .i64 x, .pointer (some ⟨g, 0, none⟩)] w _
  by_cases he : x % 2 = 0
  · have t1 : (bits .and .i64 x 1 == 0) = true := by rw [hb, beq_iff_eq]; exact he
    have HD : Hid (decide (x % 2 = 0 ∧ x / 2 ∈ l) = decide (x / 2 ∈ l)) := Lib.hid (by rw [Bool.eq_iff_iff]; simp [he])
    have HC := Lib.hid (cont_ok A n c l (x / 2) w h)
    obtain ⟨b, hbb⟩ : ∃ b, decide (x / 2 ∈ l) = b := ⟨_, rfl⟩
    rw [hbb] at HC HD
    obtain ⟨q, hq⟩ : ∃ q, decide (x % 2 = 0 ∧ x / 2 ∈ l) = q := ⟨_, rfl⟩
    rw [hq] at HD ⊢
    have e2 : x.tdiv 2 = x / 2 := by rw [Int.tdiv_eq_ediv_of_nonneg hx.1]
    clear hbb he hb h hq
    go_enter Tryd.func79, Tryd.ntmps79
    go_wp2_with (go_at_call 80; refine HC.out.mono ?_; rintro e w' ⟨rfl, rfl⟩)
    go_ret
    exact ⟨by rw [HD.out]; rfl, rfl⟩
  · have t1 : (bits .and .i64 x 1 == 0) = false := by rw [hb, beq_eq_false_iff_ne]; exact he
    have HD : Hid (decide (x % 2 = 0 ∧ x / 2 ∈ l) = false) := Lib.hid (decide_eq_false (fun q => he q.1))
    obtain ⟨q, hq⟩ : ∃ q, decide (x % 2 = 0 ∧ x / 2 ∈ l) = q := ⟨_, rfl⟩
    rw [hq] at HD ⊢
    clear he hb h hq
    go_enter Tryd.func79, Tryd.ntmps79
    go_wp2_with fail
    go_ret
    exact ⟨by rw [HD.out]; rfl, rfl⟩
theorem min_ok (g : Nat) (t : List TN) (A : Option Addr) (n c : Nat) (i x : Nat) (w : World) (hc : w.cell? ⟨g, 0, none⟩ = some (.slice A n c)) (hc2 : w.cell? ⟨g + 1, 0, none⟩ = some (.int .i64 (i : Int))) (h : Ts w A n c t) (hn : n ≤ 511) (hi : 2 * i < n) (hx : x < n) (hT : Tab w) :
    Calls Tryd.prog 76 (#[.int .i64 (x : Int)] ++ #[.pointer (some ⟨g, 0, none⟩), .pointer (some ⟨g + 1, 0, none⟩)]) w fun e w' => e = .returned (.bool (decide (HoldT t i x))) ∧ w = w' := by
  have HC := Lib.hid (holds_ok A n c t i x w h hn hi hx hT)
  obtain ⟨b, hbb⟩ : ∃ b, decide (HoldT t i x) = b := ⟨_, rfl⟩
  rw [hbb] at HC ⊢
  show Calls Tryd.prog 76 #[.int .i64 (x : Int), .pointer (some ⟨g, 0, none⟩), .pointer (some ⟨g + 1, 0, none⟩)] w _
  clear h hT
  go_enter Tryd.func76, Tryd.ntmps76
  go_wp2_with (go_at_call 74; refine HC.out.mono ?_; rintro e w' ⟨rfl, rfl⟩)
  go_ret
  exact ⟨rfl, rfl⟩
end Go.Proofs.YtieeinppoiihpaaDoor
