/- The walk of slices.Compact at numbers, in a row of the call's own: how long it comes out. -/
import Derived.Test.YtieeinppoiihpaaDoorRSort
namespace Go.Proofs.YtieeinppoiihpaaDoor
open Go.RowKit

/-- no two beside each other are the same -/
def NA (l : List Int) : Prop := ∀ (i : Nat) (a b : Int), l[i]? = some a → l[i + 1]? = some b → a ≠ b
def CPost (A : Option Addr) (n c : Nat) (l : List Int) (base : Nat) (w : World) (e : Ending) (w' : World) : Prop :=
  ∃ m : Nat, e = .returned (.slice A m c) ∧ (m = n ↔ NA l) ∧ Below base w w'
theorem set_cells {base b : Nat} (hg : base ≤ b) : ∀ (vs : List Value) (o : Nat) (w : World), Below base w (w.setCells b o vs)
  | [], _, w => Below.refl base w
  | v :: r, o, w => ((Below.refl base w).setCell (p := ⟨b, o, none⟩) hg v).trans (set_cells hg r (o + 1) _)
set_option maxRecDepth 100000 in
set_option maxHeartbeats 4000000 in
theorem compact_ok (A : Option Addr) (n c : Nat) (l : List Int) (base : Nat) (w : World) (h : Ow w base 3 1 A n c (iv l)) (hn : n ≤ 1000) :
    Calls Tryd.prog 100 #[.slice A n c] w (CPost A n c l base w) := by
  have HL : Hid (l.length = n) := by have := h.sl.len; rwa [iv_length] at this
  have hcap := h.sl.cap
  by_cases h2 : n < 2
  · have HA : Hid (NA l) := Lib.hid (fun i a b h1 h2 => by have := (List.getElem?_eq_some_iff.1 h2).1; rw [HL.out] at this; omega)
    have t : decide ((n : Int) < 2) = true := decide_eq_true (by omega)
    go_enter Tryd.func100, Tryd.ntmps100
    go_wp2_with fail
    go_ret
    exact ⟨n, rfl, ⟨fun _ => HA.out, fun _ => rfl⟩, Below.refl _ _⟩
  obtain ⟨g, rfl, hg1, hg2⟩ := h.form (by omega)
  have t : decide ((n : Int) < 2) = false := decide_eq_false (by omega)
  have h2' : 2 ≤ n := by omega
  clear h2
  go_enter Tryd.func100, Tryd.ntmps100
  go_wp2_with fail
  go_loopw [3] (fun i wr => ∃ k q : Nat, 1 ≤ k ∧ k ≤ n ∧ i = .int .i64 (k : Int) ∧ Hid (∀ (i : Nat) (a b : Int), i + 1 < k → l[i]? = some a → l[i + 1]? = some b → a ≠ b) ∧ wr = w.drewN q) (fun i _ => n - (intOf i).toNat)
  case atStart => exact ⟨1, 0, by omega, by omega, rfl, Lib.hid (fun i a b hi => by omega), rfl⟩
  case round =>
    obtain ⟨k, q, hk1, hk, rfl, ha, rfl⟩ := hrel
    by_cases hlt : k < n
    · obtain ⟨k0, hk0⟩ : ∃ k0, k = k0 + 1 := ⟨k - 1, by omega⟩
      obtain ⟨ad, hl1, e1, hc1⟩ := h.sl.int (k := k) hlt
      obtain ⟨ad', hl0, e0, hc0⟩ := h.sl.int (k := k0) (by omega)
      injection e1 with e1; subst e1
      injection e0 with e0; subst e0
      obtain ⟨x, hx⟩ : ∃ x, l[k]'hl1 = x := ⟨_, rfl⟩
      obtain ⟨y, hy⟩ : ∃ y, l[k0]'hl0 = y := ⟨_, rfl⟩
      have hx2 : l[k0 + 1]? = some x := by rw [← hk0, List.getElem?_eq_getElem hl1, hx]
      have hy2 : l[k0]? = some y := by rw [List.getElem?_eq_getElem hl0, hy]
      rw [hx, add_mk, Nat.zero_add] at hc1; rw [hy, add_mk, Nat.zero_add] at hc0
      have HX := Lib.hid hx2; have HY := Lib.hid hy2; have HK0 := Lib.hid hk0
      have z1 : (k : Int) - 1 = (k0 : Int) := by omega
      have i1 : (k : Int) < (n : Int) := by omega
      have i2 : (k0 : Int) < (n : Int) := by omega
      have wk := wrap_small k0 (by omega)
      clear hx hy hx2 hy2 hk0
      by_cases hxy : x = y
      · subst hxy
        have te : (x == x) = true := by simp
        have HN : Hid (¬ NA l) := Lib.hid (fun q => q k0 x x HY.out HX.out rfl)
        have i3 : (k : Int) ≤ (c : Int) := by omega
        have i4 : ¬ c = k := by omega
        clear ha
        go_wp2_with fail
        go_quiet (fail)
        go_wp2_with fail
        go_loopw [3, 5] (fun kv iv' wr => ∃ (k' i : Nat) (xs : List Value), k ≤ k' ∧ 1 ≤ i ∧ k' + 1 ≤ k + i ∧ i ≤ n - k ∧ kv = .int .i64 (k' : Int) ∧ iv' = .int .i64 (i : Int) ∧ Ow wr base 3 1 (some ⟨g, 0, none⟩) n c xs ∧ Hid (∀ v ∈ xs, ∃ z, v = .int .i64 z) ∧ Below base w wr) (fun _ i _ => n - (intOf i).toNat)
        case atStart => exact ⟨k, 1, iv l, Nat.le_refl _, Nat.le_refl _, Nat.le_refl _, by omega, rfl, rfl, h.drewN _, Lib.hid (fun v hv => by obtain ⟨z, _, rfl⟩ := List.mem_map.1 hv; exact ⟨z, rfl⟩), below_drewN (Below.refl _ _) _⟩
        case round =>
          obtain ⟨k', i, xs, hk', hi1, hki, hin, rfl, rfl, hO, HZ, hB⟩ := hrel
          have hxl := hO.sl.len
          by_cases hlt2 : i < n - k
          · obtain ⟨j, hj⟩ : ∃ j, i = j + 1 := ⟨i - 1, by omega⟩
            have l1 : k + i < xs.length := by omega
            have l0 : k + j < xs.length := by omega
            obtain ⟨u, hu⟩ := HZ.out _ (List.getElem_mem l1)
            obtain ⟨v, hv⟩ := HZ.out _ (List.getElem_mem l0)
            have c1 : wr.cell? ⟨g, k + i, none⟩ = some (.int .i64 u) := by rw [← hu]; exact hO.cell (List.getElem?_eq_getElem l1)
            have c0 : wr.cell? ⟨g, k + j, none⟩ = some (.int .i64 v) := by rw [← hv]; exact hO.cell (List.getElem?_eq_getElem l0)
            obtain ⟨old, co⟩ : ∃ old, wr.cell? ⟨g, k', none⟩ = some old := ⟨_, hO.cell (List.getElem?_eq_getElem (by omega : k' < xs.length))⟩
            have cf := hO.frz k'
            have z1 : (i : Int) - 1 = (j : Int) := by omega
            have i1 : (i : Int) < ((n - k : Nat) : Int) := by omega
            have i2 : (j : Int) < ((n - k : Nat) : Int) := by omega
            have i3 : (k' : Int) < (n : Int) := by omega
            have wk2 := wrap_small j (by omega)
            have hO2 := fun m => (hO.drewN m).set_ k' (.int .i64 u)
            have hB2 := fun m => (below_drewN hB m).setCell (p := ⟨g, k', none⟩) hg1 (.int .i64 u)
            have HZ2 : Hid (∀ v ∈ xs.set k' (.int .i64 u), ∃ z, v = .int .i64 z) := Lib.hid (fun v hv => by
              rcases List.mem_or_eq_of_mem_set hv with q | q
              · exact HZ.out v q
              · exact ⟨u, q⟩)
            have HO := Lib.hid hO
            clear hu hv hj hxl hO
            by_cases huv : u = v
            · subst huv
              have tu : (u != u) = false := by simp
              clear hO2 hB2 HZ2
              go_wp2_with fail
              go_quiet (fail)
              go_wp2_with fail
              go_roundw
              case rel => exact ⟨k', i + 1, xs, hk', by omega, by omega, by omega, rfl, by go_num, HO.out.drewN _, HZ, below_drewN hB _⟩
              case measure => simp [intOf]; omega
            · have tu : (u != v) = true := by rw [bne_iff_ne]; exact huv
              clear huv
              go_wp2_with fail
              go_quiet (fail)
              go_wp2_with fail
              go_roundw
              case rel => exact ⟨k' + 1, i + 1, _, by omega, by omega, by omega, by omega, by go_num, by go_num, hO2 _, HZ2, hB2 _⟩
              case measure => simp [intOf]; omega
          · have hkn : k' < n := by omega
            have hclr := Lib.run_clear_slice (P := Tryd.prog) wr 23 3 0 (.int .i64 0) Tryd.underlying23 (fun w => by first | exact Tryd.zeroValue3 w | (simp; done)) rfl rfl g k' (n - k') (c - k') (by omega) (fun j hj => by rw [hO.cell (List.getElem?_eq_getElem (by omega : k' + j < xs.length))]; rfl) (fun j _ => hO.frz _)
            have hB2 := hB.trans (set_cells hg1 (List.replicate (n - k') (.int .i64 0)) k' wr)
            have i3 : (k' : Int) ≤ (n : Int) := by omega
            have i5 : (k' : Int) ≤ (c : Int) := by omega
            have i6 : ¬ c = k' := by omega
            have i7 : (i : Int) = ((n - k : Nat) : Int) := by omega
            clear HZ hxl
            go_wp2_with fail
            go_ret
            exact ⟨k', rfl, ⟨fun e => absurd e (by omega), fun q => absurd q HN.out⟩, hB2⟩
      · have te : (x == y) = false := by rw [beq_eq_false_iff_ne]; exact hxy
        have HA2 : Hid (∀ (i : Nat) (a b : Int), i + 1 < k + 1 → l[i]? = some a → l[i + 1]? = some b → a ≠ b) := Lib.hid (fun i a b hi h1 h2 => by
          by_cases e : i = k0
          · subst e
            rw [HY.out] at h1; injection h1 with h1; subst h1
            rw [HX.out] at h2; injection h2 with h2; subst h2
            exact fun q => hxy q.symm
          · have := HK0.out
            exact ha.out i a b (by omega) h1 h2)
        clear ha hxy
        go_wp2_with fail
        go_quiet (fail)
        go_wp2_with fail
        go_roundw
        case rel => exact ⟨k + 1, _, by omega, by omega, by go_num, HA2, rfl⟩
        case measure => simp [intOf]; omega
    · obtain rfl : k = n := by omega
      have HA : Hid (NA l) := Lib.hid (fun i a b h1 h2 => ha.out i a b (by have := (List.getElem?_eq_some_iff.1 h2).1; rw [HL.out] at this; exact this) h1 h2)
      clear ha
      go_wp2_with fail
      go_ret
      exact ⟨k, rfl, ⟨fun _ => HA.out, fun _ => rfl⟩, below_drewN (Below.refl _ _) _⟩
end Go.Proofs.YtieeinppoiihpaaDoor
