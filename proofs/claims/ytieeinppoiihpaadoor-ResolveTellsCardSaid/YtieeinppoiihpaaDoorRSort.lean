/- The walks of cmp.Less, slices.IsSorted, Clone, Index, Contains at numbers. -/
import Derived.Test.YtieeinppoiihpaaDoorTN
import Derived.Lib.SliceRun
import Derived.Deep.QuietTactic
import Derived.BigQuiet
namespace Go.Proofs.YtieeinppoiihpaaDoor
open Go.RowKit

theorem nan_ok (x : Int) (w : World) : Calls Tryd.prog 102 #[.int .i64 x] w fun e w' => e = .returned (.bool false) ∧ w = w' := by
  have t : (x != x) = false := by simp
  go_enter Tryd.func102, Tryd.ntmps102
  go_wp2_with fail
  go_ret
  exact ⟨rfl, rfl⟩
theorem less_ok (x y : Int) (w : World) : Calls Tryd.prog 101 #[.int .i64 x, .int .i64 y] w fun e w' => e = .returned (.bool (decide (x < y))) ∧ w = w' := by
  have H := Lib.hid (fun x W => nan_ok x W)
  go_enter Tryd.func101, Tryd.ntmps101
  go_wp2_with (go_at_call 102; refine (H.out _ _).mono ?_; rintro e w' ⟨rfl, rfl⟩)
  go_ret
  exact ⟨by simp, rfl⟩
theorem less_q (x y : Int) (w : World) (n : Nat) : Calls Tryd.prog 101 #[.int .i64 x, .int .i64 y] (w.drewN n) fun e w' => e = .returned (.bool (decide (x < y))) ∧ ∃ m, w' = w.drewN m :=
  Calls.quiet_of_same ((less_ok x y (w.drewN n)).mono fun _ _ ⟨a, b⟩ => ⟨a, b.symm⟩)
theorem clone_ok (A : Option Addr) (n c : Nat) (l : List Int) (w : World) (h : Sl w A n c (iv l)) (hn : n * 8 ≤ 140737488351232) :
    Calls Tryd.prog 78 #[.slice A n c] w fun e w' => ∃ A' c', e = .returned (.slice A' n c') ∧ Ow w' w.heap.size 3 1 A' n c' (iv l) ∧ Below w.heap.size w w' := by
  have q := fun (w : World) => Lib.run_eql_slice_nil (P := Tryd.prog) w 23 3 A n c 0 0 Tryd.underlying23
  have hl := h.len
  rcases A with _ | ad
  · have h0 : l = [] := by
      rcases h.lies with e | ⟨ad, e, _⟩
      · simpa [iv] using e
      · cases e
    subst h0
    obtain rfl : n = 0 := by simpa [iv] using hl.symm
    clear h hl
    go_enter Tryd.func78, Tryd.ntmps78
    go_wp2_with fail
    go_ret
    exact ⟨_, _, rfl, Ow.nil _ _ _ _, Below.refl _ _⟩
  · have H := Lib.hid hl; clear hl
    have hf := h.lies
    go_enter Tryd.func78, Tryd.ntmps78
    go_wp2_with (at_builtin; refine wpList_app E23 rfl rfl rfl (World.ownsRow_made w #[] 0 (Nat.le_refl _) (by simp) rfl) rfl (hf.alloc _) (by rw [H.out, Nat.mul_one]) (fun u hu => iv_one l u hu) (by unfold maxLen; omega) (by omega) (by simp) ?_; intro A' c' w' hO hG hB)
    go_ret
    refine ⟨A', c', ?_, ?_, ?_⟩
    · simp
    · simpa using hO
    · exact ((Below.refl _ w).alloc (Nat.le_refl _) _).trans hB
/-- the answer tells whether it is so -/
def BoolIs (e : Ending) (p : Prop) : Prop := ∃ b, e = .returned (.bool b) ∧ (b = true ↔ p)
def IdxIs (e : Ending) (l : List Int) (x : Int) : Prop := ∃ z : Int, e = .returned (.int .i64 z) ∧ (0 ≤ z ↔ x ∈ l)
theorem take_not {l : List Int} {k : Nat} {x y : Int} (hk : l[k]? = some y) (hn : x ∉ l.take k) (hy : x ≠ y) : x ∉ l.take (k + 1) := by
  rw [List.take_add_one, hk, Option.toList_some]
  intro h
  rcases List.mem_append.1 h with h | h
  · exact hn h
  · simp at h; exact hy h
theorem index_ok (A : Option Addr) (n c : Nat) (l : List Int) (x : Int) (w : World) (h : Sl w A n c (iv l)) :
    Calls Tryd.prog 90 #[.slice A n c, .int .i64 x] w fun e w' => IdxIs e l x ∧ w = w' := by
  have htop := h.top; have hcap := h.cap; unfold maxLen at htop
  have HL : Hid (l.length = n) := by have := h.len; rwa [iv_length] at this
  go_enter Tryd.func90, Tryd.ntmps90
  go_wp2_with fail
  go_loop [5, 8] (fun _ i => ∃ k : Nat, k ≤ n ∧ i = .int .i64 k ∧ Hid (x ∉ l.take k)) (fun _ i => n - (intOf i).toNat)
  case atStart => exact ⟨0, Nat.zero_le _, rfl, Lib.hid (by simp)⟩
  case round =>
    obtain ⟨k, hk, rfl, ha⟩ := hrel
    by_cases hlt : k < n
    · obtain ⟨ad, hl, rfl, hc⟩ := h.int hlt
      obtain ⟨y, hy⟩ : ∃ y, l[k]'hl = y := ⟨_, rfl⟩
      have hy2 : l[k]? = some y := by rw [List.getElem?_eq_getElem hl, hy]
      rw [hy] at hc
      by_cases e : x = y
      · subst e
        have t : (x == x) = true := by simp
        have HM := Lib.hid (List.mem_of_getElem? hy2)
        clear hy hy2
        go_wp2_with fail
        go_ret
        exact ⟨⟨k, rfl, ⟨fun _ => HM.out, fun _ => by omega⟩⟩, rfl⟩
      · have t : (x == y) = false := by rw [beq_eq_false_iff_ne]; exact e
        have HN := Lib.hid (take_not hy2 ha.out e)
        clear hy hy2 e
        go_wp2_with fail
        go_round
        case rel => exact ⟨k + 1, by omega, by go_num, HN⟩
        case measure => simp [intOf]; omega
    · obtain rfl : k = n := by omega
      have hno : x ∉ l := by have := ha.out; rwa [← HL.out, List.take_length] at this
      have HN := Lib.hid hno
      clear hno
      go_wp2_with fail
      go_ret
      exact ⟨⟨-1, rfl, ⟨fun q => absurd q (by omega), fun q => absurd q HN.out⟩⟩, rfl⟩
theorem cont_ok (A : Option Addr) (n c : Nat) (l : List Int) (x : Int) (w : World) (h : Sl w A n c (iv l)) :
    Calls Tryd.prog 80 #[.slice A n c, .int .i64 x] w fun e w' => e = .returned (.bool (decide (x ∈ l))) ∧ w = w' := by
  have H := Lib.hid (index_ok A n c l x w h)
  go_enter Tryd.func80, Tryd.ntmps80
  go_wp2_with fail
  refine H.out.mono ?_; rintro e w' ⟨⟨z, rfl, hz⟩, rfl⟩
  have HZ : Hid (decide (0 ≤ z) = decide (x ∈ l)) := Lib.hid (by rw [decide_eq_decide]; exact hz)
  clear hz
  go_wp2_with fail
  go_ret
  exact ⟨by rw [← HZ.out]; rfl, rfl⟩
/-- each is no less than the one ahead -/
def Up (l : List Int) : Prop := ∀ (i : Nat) (a b : Int), l[i]? = some a → l[i + 1]? = some b → a ≤ b
theorem wrap_small (k : Nat) (h : k ≤ 1000000) : IntKind.i64.wrap (k : Int) = (k : Int) := by
  rw [IntKind.wrap_i64]; omega
theorem sorted_ok (A : Option Addr) (n c : Nat) (l : List Int) (w : World) (h : Sl w A n c (iv l)) (hn : n ≤ 1000) :
    Calls Tryd.prog 99 #[.slice A n c] w fun e w' => BoolIs e (Up l) ∧ ∃ m, w' = w.drewN m := by
  have HL : Hid (l.length = n) := by have := h.len; rwa [iv_length] at this
  have H := Lib.hid (fun x y W => less_ok x y W)
  go_enter Tryd.func99, Tryd.ntmps99
  go_wp2_with fail
  go_loopw [3] (fun i wr => ∃ (z : Int) (q : Nat), z + 1 ≤ (n : Int) ∧ -1 ≤ z ∧ i = .int .i64 z ∧ Hid (∀ (i : Nat) (a b : Int), z ≤ (i : Int) → l[i]? = some a → l[i + 1]? = some b → a ≤ b) ∧ wr = w.drewN q) (fun i _ => (intOf i).toNat)
  case atStart => exact ⟨(n : Int) - 1, 0, by omega, by omega, rfl, Lib.hid (fun i a b hi h1 h2 => by have := (List.getElem?_eq_some_iff.1 h2).1; rw [HL.out] at this; omega), rfl⟩
  case round =>
    obtain ⟨z, q, hz1, hz2, rfl, ha, rfl⟩ := hrel
    by_cases hz : 0 < z
    · obtain ⟨kk, rfl⟩ : ∃ kk : Nat, z = (kk : Int) := ⟨z.toNat, by omega⟩
      obtain ⟨k, hkk⟩ : ∃ k, kk = k + 1 := ⟨kk - 1, by omega⟩
      obtain ⟨ad, hl1, rfl, hc1⟩ := h.int (k := kk) (by omega)
      obtain ⟨ad', hl0, e', hc0⟩ := h.int (k := k) (by omega)
      injection e' with e'; subst e'
      obtain ⟨x, hx⟩ : ∃ x, l[kk]'hl1 = x := ⟨_, rfl⟩
      obtain ⟨y, hy⟩ : ∃ y, l[k]'hl0 = y := ⟨_, rfl⟩
      have hx2 : l[kk]? = some x := by rw [List.getElem?_eq_getElem hl1, hx]
      have hy2 : l[k]? = some y := by rw [List.getElem?_eq_getElem hl0, hy]
      rw [hx] at hc1; rw [hy] at hc0
      have HX : Hid (l[k + 1]? = some x) := Lib.hid (by rw [← hkk]; exact hx2); have HY := Lib.hid hy2
      have tz : decide ((0 : Int) < (kk : Int)) = true := decide_eq_true (by omega)
      have z1 : (kk : Int) - 1 = (k : Int) := by omega
      have i1 : (kk : Int) < (n : Int) := by omega
      have i2 : (k : Int) < (n : Int) := by omega
      have wk := wrap_small k (by omega)
      have HK := Lib.hid hkk
      clear hx hy hx2 hy2 hkk
      by_cases hlt : x < y
      · have t : decide (x < y) = true := decide_eq_true hlt
        have HN : Hid (¬ Up l) := Lib.hid (fun q => by have := q k y x HY.out HX.out; omega)
        clear ha
        go_wp2_with fail
        go_quiet (first | (go_at_call 101; exact (H.out _ _ _).mono fun _ _ ⟨a, b⟩ => ⟨a, _, b.symm⟩))
        go_wp2_with fail
        go_ret
        exact ⟨⟨false, rfl, ⟨nofun, fun q => absurd q HN.out⟩⟩, (by first | exact ⟨_, rfl⟩ | exact ⟨_, World.drewN_drewN ..⟩)⟩
      · have t : decide (x < y) = false := decide_eq_false hlt
        have HA2 : Hid (∀ (i : Nat) (a b : Int), (k : Int) ≤ (i : Int) → l[i]? = some a → l[i + 1]? = some b → a ≤ b) := Lib.hid (fun i a b hi h1 h2 => by
          by_cases e : i = k
          · subst e
            rw [HY.out] at h1; injection h1 with h1; subst h1
            rw [HX.out] at h2; injection h2 with h2; subst h2
            omega
          · exact ha.out i a b (by have := HK.out; omega) h1 h2)
        clear ha
        go_wp2_with fail
        go_quiet (first | (go_at_call 101; exact (H.out _ _ _).mono fun _ _ ⟨a, b⟩ => ⟨a, _, b.symm⟩))
        go_wp2_with fail
        go_roundw
        case rel => exact ⟨(k : Int), _, by omega, by omega, by go_num, HA2, rfl⟩
        case measure => have := HK.out; simp [intOf]; omega
    · have HU : Hid (Up l) := Lib.hid (fun i a b h1 h2 => ha.out i a b (by omega) h1 h2)
      have tz : decide ((0 : Int) < z) = false := decide_eq_false hz
      clear ha
      go_wp2_with fail
      go_ret
      exact ⟨⟨true, rfl, ⟨fun _ => HU.out, fun _ => rfl⟩⟩, (by first | exact ⟨_, rfl⟩ | exact ⟨_, World.drewN_drewN ..⟩)⟩
end Go.Proofs.YtieeinppoiihpaaDoor
