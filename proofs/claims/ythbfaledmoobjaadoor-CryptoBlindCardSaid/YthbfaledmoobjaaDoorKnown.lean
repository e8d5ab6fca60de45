/- The walks of known, the closure of may, IndexFunc, ContainsFunc. -/
import Derived.Test.YthbfaledmoobjaaDoorSmall
namespace Go.Proofs.YthbfaledmoobjaaDoor
open Go.RowKit

def knownF (ns : List NN) (l : List Int) : Bool := l.all (hasF ns)
theorem known_take {ns : List NN} {l : List Int} {k : Nat} {y : Int} (hk : l[k]? = some y) (hy : hasF ns y = true) (h : knownF ns (l.take k) = true) : knownF ns (l.take (k + 1)) = true := by
  rw [List.take_add_one, hk, Option.toList_some]
  unfold knownF at *
  rw [List.all_append, h]
  simp [hy]
theorem known_bad {ns : List NN} {l : List Int} {k : Nat} {y : Int} (hk : l[k]? = some y) (hy : hasF ns y = false) : knownF ns l = false := by
  unfold knownF
  rw [List.all_eq_false]
  exact ⟨y, List.mem_of_getElem? hk, by simp [hy]⟩
theorem known_ok (base b : Nat) (ns : List NN) (A : Option Addr) (n c : Nat) (l : List Int) (w : World) (h : AR w base b ns) (hl : Sl w A n c (iv l)) :
    Calls Tryd.prog 29 #[.pointer (some ⟨b, 0, none⟩), .slice A n c] w fun e w' => e = .returned (.bool (knownF ns l)) ∧ Below w.heap.size w w' := by
  have HL : Hid (l.length = n) := Lib.hid (by have := hl.len; rwa [iv_length] at this)
  have hL0 : n ≤ 9223372036854775807 := by have h1 := hl.top; have h2 := hl.cap; unfold maxLen at h1; omega
  have HLN := Lib.hid (fun W (hW : Below w.heap.size w W) => len_ok base b ns W (h.below hW))
  clear h
  go_enter Tryd.func29, Tryd.ntmps29
  go_wp2_with fail
  go_loopw [9] (fun i wr => ∃ k : Nat, k ≤ n ∧ i = .int .i64 (k : Int) ∧ Hid (knownF ns (l.take k) = true) ∧ Below w.heap.size w wr) (fun i _ => n - (intOf i).toNat)
  case atStart => exact ⟨0, Nat.zero_le _, rfl, Lib.hid rfl, Below.refl _ _⟩
  case round =>
    obtain ⟨k, hk, rfl, HK, hB⟩ := hrel
    by_cases hlt : k < n
    · obtain ⟨au, hlu, rfl, hcu⟩ := (hl.below hB).int hlt
      obtain ⟨y, hy⟩ : ∃ y, l[k]'hlu = y := ⟨_, rfl⟩
      have hy2 : l[k]? = some y := by rw [List.getElem?_eq_getElem hlu, hy]
      rw [hy] at hcu
      have HY := Lib.hid hy2
      have HC := Lib.hid (HLN.out wr hB)
      clear hy hy2
      by_cases h0 : y < 0
      · have t1 : decide (y < 0) = true := decide_eq_true h0
        have HR : Hid (knownF ns l = false) := Lib.hid (known_bad HY.out (by unfold hasF; rw [decide_eq_false (by omega), Bool.false_and]))
        clear h0
        go_wp2_with fail
        go_ret
        exact ⟨by rw [HR.out]; rfl, hB⟩
      have t1 : decide (y < 0) = false := decide_eq_false h0
      by_cases h9 : (ns.length : Int) ≤ y
      · have t2 : decide ((ns.length : Int) ≤ y) = true := decide_eq_true h9
        have HR : Hid (knownF ns l = false) := Lib.hid (known_bad HY.out (by unfold hasF; rw [decide_eq_false (show ¬ y < (ns.length : Int) by omega), Bool.and_false]))
        clear h0 h9
        go_wp2_with (go_at_call 11; refine HC.out.mono ?_; rintro e w' ⟨rfl, rfl⟩)
        go_ret
        exact ⟨by rw [HR.out]; rfl, hB⟩
      · have t2 : decide ((ns.length : Int) ≤ y) = false := decide_eq_false h9
        have HR : Hid (knownF ns (l.take (k + 1)) = true) := Lib.hid (known_take HY.out (by unfold hasF; rw [decide_eq_true (show 0 ≤ y by omega), decide_eq_true (show y < (ns.length : Int) by omega)]; rfl) HK.out)
        clear h0 h9
        go_wp2_with (go_at_call 11; refine HC.out.mono ?_; rintro e w' ⟨rfl, rfl⟩)
        go_roundw
        case rel => exact ⟨k + 1, by omega, by go_num, HR, hB⟩
        case measure => simp [intOf]; omega
    · obtain rfl : k = n := by omega
      have HR : Hid (knownF ns l = true) := Lib.hid (by have := HK.out; rwa [← HL.out, List.take_length] at this)
      go_wp2_with fail
      go_ret
      exact ⟨by rw [HR.out]; rfl, hB⟩
/-- the first that is sought -/
def First (l : List Int) (p : Int → Bool) (z : Int) : Prop := (z = -1 ∧ ∀ y ∈ l, p y = false) ∨ ∃ (k : Nat) (y : Int), z = (k : Int) ∧ l[k]? = some y ∧ p y = true ∧ ∀ u ∈ l.take k, p u = false
set_option maxRecDepth 100000 in
theorem idxf_ok (f : Nat) (cap : Array Value) (p : Int → Bool) (A : Option Addr) (n c : Nat) (l : List Int) (w : World) (h : Sl w A n c (iv l)) (hcf : ∀ (args : Array Value) (w : World), (callFunc f args).run Tryd.prog w = .ok (.enter f args) w)
    (hf : Hid (∀ x ∈ l, Calls Tryd.prog f (#[.int .i64 x] ++ cap) w fun e w' => e = .returned (.bool (p x)) ∧ w = w')) :
    Calls Tryd.prog 46 #[.slice A n c, .func (.func f) #[] cap] w fun e w' => ∃ z, e = .returned (.int .i64 z) ∧ First l p z ∧ w = w' := by
  have HL : Hid (l.length = n) := Lib.hid (by have := h.len; rwa [iv_length] at this)
  have hL0 : n ≤ 9223372036854775807 := by have h1 := h.top; have h2 := h.cap; unfold maxLen at h1; omega
  go_enter Tryd.func46, Tryd.ntmps46
  go_wp2_with fail
  go_loop [8] (fun i => ∃ k : Nat, k ≤ n ∧ i = .int .i64 (k : Int) ∧ Hid (∀ u ∈ l.take k, p u = false)) (fun i => n - (intOf i).toNat)
  case atStart => exact ⟨0, Nat.zero_le _, rfl, Lib.hid (by simp)⟩
  case round =>
    obtain ⟨k, hk, rfl, ha⟩ := hrel
    by_cases hlt : k < n
    · obtain ⟨au, hlu, rfl, hcu⟩ := h.int hlt
      obtain ⟨y, hy⟩ : ∃ y, l[k]'hlu = y := ⟨_, rfl⟩
      have hy2 : l[k]? = some y := by rw [List.getElem?_eq_getElem hlu, hy]
      rw [hy] at hcu
      have HC := Lib.hid (hf.out y (List.mem_of_getElem? hy2))
      have HY := Lib.hid hy2
      obtain ⟨b, hb⟩ : ∃ b, p y = b := ⟨_, rfl⟩
      rw [hb] at HC
      have HB := Lib.hid hb
      clear hb hy hy2
      go_wp2_with fail
      refine HC.out.mono ?_; rintro e w' ⟨rfl, rfl⟩
      cases b
      · have HN : Hid (∀ u ∈ l.take (k + 1), p u = false) := Lib.hid (fun u hu => by
          rw [List.take_add_one, HY.out, Option.toList_some] at hu
          rcases List.mem_append.1 hu with hu | hu
          · exact ha.out u hu
          · simp at hu; subst hu; exact HB.out)
        go_wp2_with fail
        go_round
        case rel => exact ⟨k + 1, by omega, by go_num, HN⟩
        case measure => simp [intOf]; omega
      · go_wp2_with fail
        go_ret
        exact ⟨_, rfl, .inr ⟨k, y, rfl, HY.out, HB.out, ha.out⟩, rfl⟩
    · obtain rfl : k = n := by omega
      have HA : Hid (∀ u ∈ l, p u = false) := Lib.hid (by have := ha.out; rwa [← HL.out, List.take_length] at this)
      go_wp2_with fail
      go_ret
      exact ⟨_, rfl, .inl ⟨rfl, HA.out⟩, rfl⟩
theorem cf44 (args : Array Value) (w : World) : (callFunc 44 args).run Tryd.prog w = .ok (.enter 44 args) w := by kernel_rfl
theorem fn_ok (g base b : Nat) (ns : List NN) (t : Int) (w : World) (hc : w.cell? ⟨g, 0, none⟩ = some (.pointer (some ⟨b, 0, none⟩))) (h : AR w base b ns) :
    Calls Tryd.prog 44 (#[.int .i64 t] ++ #[.pointer (some ⟨g, 0, none⟩)]) w fun e w' => e = .returned (.bool (!hasF ns t)) ∧ w = w' := by
  show Calls Tryd.prog 44 #[.int .i64 t, .pointer (some ⟨g, 0, none⟩)] w _
  have HH := Lib.hid (has_ok base b ns t w h)
  clear h
  go_enter Tryd.func44, Tryd.ntmps44
  go_wp2_with (go_at_call 41; refine HH.out.mono ?_; rintro e w' ⟨rfl, rfl⟩)
  go_ret
  exact ⟨rfl, rfl⟩
theorem some_ok (g base b : Nat) (ns : List NN) (A : Option Addr) (n c : Nat) (l : List Int) (w : World) (hc : w.cell? ⟨g, 0, none⟩ = some (.pointer (some ⟨b, 0, none⟩))) (h : AR w base b ns) (hl : Sl w A n c (iv l)) :
    Calls Tryd.prog 43 #[.slice A n c, .func (.func 44) #[] #[.pointer (some ⟨g, 0, none⟩)]] w fun e w' => e = .returned (.bool (!knownF ns l)) ∧ w = w' := by
  have HI := Lib.hid (idxf_ok 44 #[.pointer (some ⟨g, 0, none⟩)] (fun t => !hasF ns t) A n c l w hl cf44 (Lib.hid fun x _ => fn_ok g base b ns x w hc h))
  clear hc h hl
  go_enter Tryd.func43, Tryd.ntmps43
  go_wp2_with (go_at_call 46; refine HI.out.mono ?_; rintro e w' ⟨z, rfl, hz, rfl⟩; refine Hid.out ?_)
  refine Lib.hid ?_
  have HK : Hid (decide (0 ≤ z) = !knownF ns l) := Lib.hid (by
    rcases hz with ⟨rfl, hz⟩ | ⟨k, y, rfl, hy, hp, _⟩
    · have : knownF ns l = true := by
        unfold knownF
        rw [List.all_eq_true]
        intro u hu
        have := hz u hu
        simpa using this
      rw [this]; rfl
    · have : knownF ns l = false := known_bad hy (by simpa using hp)
      rw [this, decide_eq_true (by omega)]; rfl)
  clear hz
  go_wp2_with fail
  go_ret
  exact ⟨by rw [← HK.out]; rfl, rfl⟩
end Go.Proofs.YthbfaledmoobjaaDoor
