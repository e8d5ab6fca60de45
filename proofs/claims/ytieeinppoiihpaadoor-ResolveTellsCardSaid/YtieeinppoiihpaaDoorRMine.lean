/- The walks of resolve.Mine, few, the reference's In and Under. -/
import Derived.Test.YtieeinppoiihpaaDoorRDelete
import Derived.Test.YtieeinppoiihpaaDoorRef
namespace Go.Proofs.YtieeinppoiihpaaDoor
open Go.RowKit

theorem kid_fact {x : Nat} (h : x < 511) (h1 : x % 2 = 1) : loN x = loN (leftN x) ∧ hiN (leftN x) = loN (rightN x) ∧ hiN (rightN x) = hiN x ∧ lev (leftN x) < lev x ∧ lev (rightN x) < lev x := by
  have := nodes_all (p := fun x => x % 2 == 0 || (loN x == loN (leftN x) && hiN (leftN x) == loN (rightN x) && hiN (rightN x) == hiN x && decide (lev (leftN x) < lev x) && decide (lev (rightN x) < lev x))) (by kernel_rfl) h
  simpa [h1, Bool.and_eq_true, and_assoc] using this
theorem leaf_fact {i : Nat} (h : i < 256) : loN (2 * i) = i ∧ hiN (2 * i) = i + 1 ∧ lev (2 * i) = 0 := by
  have := nodes_all (p := fun x => x % 2 == 1 || (loN x == x / 2 && hiN x == x / 2 + 1 && lev x == 0)) (by kernel_rfl) (show 2 * i < 511 by omega)
  simpa [and_assoc] using this
theorem lo_hi {x : Nat} (h : x < 511) : loN x < hiN x := by
  simpa using nodes_all (p := fun x => decide (loN x < hiN x)) (by kernel_rfl) h
/-- a node is another one, or under it -/
def UnderN (y x : Nat) : Prop := loN x ≤ loN y ∧ hiN y ≤ hiN x ∧ lev y ≤ lev x
instance (y x : Nat) : Decidable (UnderN y x) := by unfold UnderN; infer_instance
theorem UnderN.refl (x : Nat) : UnderN x x := ⟨Nat.le_refl _, Nat.le_refl _, Nat.le_refl _⟩
theorem UnderN.trans {x y z : Nat} (h : UnderN x y) (k : UnderN y z) : UnderN x z := ⟨Nat.le_trans k.1 h.1, Nat.le_trans h.2.1 k.2.1, Nat.le_trans h.2.2 k.2.2⟩
theorem rlvs_ok (x : Nat) (w : World) (hx : x < 511) :
    Calls Tryd.prog 35 #[.int .i64 (x : Int)] w fun e w' => e = .returned (.tuple #[.int .i64 (loN x : Nat), .int .i64 (hiN x : Nat), .int .i64 0]) ∧ w = w' := by
  have hl := lev_le hx
  have H1 := Lib.hid (fun W => rlev_ok x W hx)
  have H2 := fun W => rhalf (lev x + 1) W (by omega) (by omega)
  rw [Nat.add_sub_cancel] at H2
  rw [show ((lev x + 1 : Nat) : Int) = (lev x : Int) + 1 by omega] at H2
  have f := nodes_all (p := fun x => decide (2 ^ lev x ≤ x + 1) && decide (1 ≤ 2 ^ lev x) && decide (2 ^ lev x ≤ 256) && ((x : Int) - (2 * ((2 ^ lev x : Nat) : Int) - 1) / 2) / 2 == (loN x : Nat) && ((x : Int) + (2 * ((2 ^ lev x : Nat) : Int) - 1) / 2) / 2 + 1 == (hiN x : Nat)) (by kernel_rfl) hx
  simp only [Bool.and_eq_true, beq_iff_eq, decide_eq_true_eq] at f
  obtain ⟨⟨⟨⟨f2, f3⟩, f0⟩, f4⟩, f5⟩ := f
  obtain ⟨q, hq⟩ : ∃ q, 2 ^ lev x = q := ⟨_, rfl⟩
  rw [hq] at f0 f2 f3 f4 f5 H2
  obtain ⟨k, hk⟩ : ∃ k, lev x = k := ⟨_, rfl⟩
  rw [hk] at H1 H2 hl
  have HH := Lib.hid H2
  have F4 := Lib.hid f4; have F5 := Lib.hid f5
  clear f4 f5 hq hk H2
  go_enter Tryd.func35, Tryd.ntmps35
  go_wp2_with (first
    | (go_at_call 30; refine (H1.out _).mono ?_; rintro e w' ⟨rfl, rfl⟩)
    | (go_at_call 65; refine (HH.out _).mono ?_; rintro e w' ⟨rfl, rfl⟩))
  go_ret3
  exact ⟨by rw [← F4.out, ← F5.out]; rfl, rfl⟩
theorem under_ok (y x : Nat) (w : World) (hy : y < 511) (hx : x < 511) :
    Calls Tryd.prog 42 #[.int .i64 (y : Int), .int .i64 (x : Int)] w fun e w' => e = .returned (.bool (decide (UnderN y x))) ∧ w = w' := by
  have H1 := fun W => rlvs_ok y W hy
  have H2 := fun W => rlvs_ok x W hx
  have H3 := fun W => rlev_ok y W hy
  have H4 := fun W => rlev_ok x W hx
  have HD : Hid (UnderN y x ↔ loN x ≤ loN y ∧ hiN y ≤ hiN x ∧ lev y ≤ lev x) := Lib.hid (Iff.rfl)
  obtain ⟨R, hR⟩ : ∃ R, decide (UnderN y x) = R := ⟨_, rfl⟩
  obtain ⟨a, ha⟩ : ∃ a, loN y = a := ⟨_, rfl⟩
  obtain ⟨b, hb⟩ : ∃ b, hiN y = b := ⟨_, rfl⟩
  obtain ⟨c, hc⟩ : ∃ c, loN x = c := ⟨_, rfl⟩
  obtain ⟨d, hd⟩ : ∃ d, hiN x = d := ⟨_, rfl⟩
  obtain ⟨k, hk⟩ : ∃ k, lev y = k := ⟨_, rfl⟩
  obtain ⟨m, hm⟩ : ∃ m, lev x = m := ⟨_, rfl⟩
  rw [ha, hb, hc, hd, hk, hm] at HD
  rw [ha, hb] at H1; rw [hc, hd] at H2; rw [hk] at H3; rw [hm] at H4
  have HR : Hid (R = true ↔ c ≤ a ∧ b ≤ d ∧ k ≤ m) := Lib.hid (by rw [← HD.out, ← hR, decide_eq_true_iff])
  rw [hR]
  have H1 := Lib.hid H1; have H2 := Lib.hid H2; have H3 := Lib.hid H3; have H4 := Lib.hid H4
  have two : ∀ p q : Nat, decide ((p : Int) ≤ (q : Int)) = decide (p ≤ q) := fun p q => by rw [Bool.eq_iff_iff]; simp
  obtain ⟨u, hu⟩ : ∃ u, decide (c ≤ a) = u := ⟨_, rfl⟩
  obtain ⟨v, hv⟩ : ∃ v, decide (b ≤ d) = v := ⟨_, rfl⟩
  obtain ⟨z, hz⟩ : ∃ z, decide (k ≤ m) = z := ⟨_, rfl⟩
  have HU : Hid (R = (u && v && z)) := Lib.hid (by
    rw [Bool.eq_iff_iff, HR.out, Bool.and_eq_true, Bool.and_eq_true, ← hu, ← hv, ← hz, decide_eq_true_iff, decide_eq_true_iff, decide_eq_true_iff, and_assoc])
  have u1 : decide ((c : Int) ≤ (a : Int)) = u := by rw [two, hu]
  have v1 : decide ((b : Int) ≤ (d : Int)) = v := by rw [two, hv]
  have z1 : decide ((k : Int) ≤ (m : Int)) = z := by rw [two, hz]
  clear hR ha hb hc hd hk hm two HD HR
  cases u
  · go_enter Tryd.func42, Tryd.ntmps42
    go_wp2_with fail
    refine (H1.out _).mono ?_; rintro e w' ⟨rfl, rfl⟩
    go_wp2_with fail
    refine (H2.out _).mono ?_; rintro e w' ⟨rfl, rfl⟩
    go_wp2_with fail
    refine (H3.out _).mono ?_; rintro e w' ⟨rfl, rfl⟩
    go_wp2_with fail
    refine (H4.out _).mono ?_; rintro e w' ⟨rfl, rfl⟩
    go_wp2_with fail
    go_ret
    exact ⟨by rw [HU.out]; rfl, rfl⟩
  cases v
  · go_enter Tryd.func42, Tryd.ntmps42
    go_wp2_with fail
    refine (H1.out _).mono ?_; rintro e w' ⟨rfl, rfl⟩
    go_wp2_with fail
    refine (H2.out _).mono ?_; rintro e w' ⟨rfl, rfl⟩
    go_wp2_with fail
    refine (H3.out _).mono ?_; rintro e w' ⟨rfl, rfl⟩
    go_wp2_with fail
    refine (H4.out _).mono ?_; rintro e w' ⟨rfl, rfl⟩
    go_wp2_with fail
    go_ret
    exact ⟨by rw [HU.out]; rfl, rfl⟩
  · go_enter Tryd.func42, Tryd.ntmps42
    go_wp2_with fail
    refine (H1.out _).mono ?_; rintro e w' ⟨rfl, rfl⟩
    go_wp2_with fail
    refine (H2.out _).mono ?_; rintro e w' ⟨rfl, rfl⟩
    go_wp2_with fail
    refine (H3.out _).mono ?_; rintro e w' ⟨rfl, rfl⟩
    go_wp2_with fail
    refine (H4.out _).mono ?_; rintro e w' ⟨rfl, rfl⟩
    go_wp2_with fail
    go_ret
    exact ⟨by rw [HU.out]; rfl, rfl⟩
theorem in_ok (A : Option Addr) (n c : Nat) (l : List Int) (x : Int) (w : World) (h : Sl w A n c (iv l)) :
    Calls Tryd.prog 44 #[.slice A n c, .int .i64 x] w fun e w' => e = .returned (.bool (decide (x ∈ l))) ∧ w = w' := by
  have HL : Hid (l.length = n) := Lib.hid (by have := h.len; rwa [iv_length] at this)
  have hL0 : n ≤ 9223372036854775807 := by have h1 := h.top; have h2 := h.cap; unfold maxLen at h1; omega
  go_enter Tryd.func44, Tryd.ntmps44
  go_wp2_with fail
  go_loop [9] (fun i => ∃ k : Nat, k ≤ n ∧ i = .int .i64 (k : Int) ∧ Hid (x ∉ l.take k)) (fun i => n - (intOf i).toNat)
  case atStart => exact ⟨0, Nat.zero_le _, rfl, Lib.hid (by simp)⟩
  case round =>
    obtain ⟨k, hk, rfl, ha⟩ := hrel
    by_cases hlt : k < n
    · obtain ⟨au, hlu, rfl, hcu⟩ := h.int hlt
      obtain ⟨y, hy⟩ : ∃ y, l[k]'hlu = y := ⟨_, rfl⟩
      have hy2 : l[k]? = some y := by rw [List.getElem?_eq_getElem hlu, hy]
      rw [hy] at hcu
      by_cases hyx : y = x
      · subst hyx
        have t1 : (y == y) = true := by simp
        have HD : Hid (decide (y ∈ l) = true) := Lib.hid (decide_eq_true (List.mem_of_getElem? hy2))
        clear hy hy2 ha
        go_wp2_with fail
        go_ret
        exact ⟨by rw [HD.out]; rfl, rfl⟩
      · have t1 : (y == x) = false := by rw [beq_eq_false_iff_ne]; exact hyx
        have HN : Hid (x ∉ l.take (k + 1)) := Lib.hid (take_not hy2 ha.out (fun q => hyx q.symm))
        clear hy hy2 ha hyx
        go_wp2_with fail
        go_round
        case rel => exact ⟨k + 1, by omega, by go_num, HN⟩
        case measure => simp [intOf]; omega
    · obtain rfl : k = n := by omega
      have HD : Hid (decide (x ∈ l) = false) := Lib.hid (decide_eq_false (by have := ha.out; rwa [← HL.out, List.take_length] at this))
      clear ha
      go_wp2_with fail
      go_ret
      exact ⟨by rw [HD.out]; rfl, rfl⟩
/-- small enough to be played -/
def Few (t : List TN) : Prop := t.length ≤ 140 ∧ ∀ s ∈ t, s.un.length ≤ 70
instance (t : List TN) : Decidable (Few t) := by unfold Few; infer_instance
set_option maxRecDepth 100000 in
theorem few_ok (A : Option Addr) (n c : Nat) (t : List TN) (w : World) (h : Ts w A n c t) :
    Calls Tryd.prog 37 #[.slice A n c] w fun e w' => e = .returned (.bool (decide (Few t))) ∧ Below w.heap.size w w' := by
  have HL := Lib.hid h.len
  by_cases hn : n ≤ 140
  rotate_left
  · have t1 : decide ((140 : Int) < (n : Int)) = true := decide_eq_true (by omega)
    have HD : Hid (decide (Few t) = false) := Lib.hid (decide_eq_false (fun q => hn (by have := q.1; rwa [HL.out] at this)))
    clear hn
    go_enter Tryd.func37, Tryd.ntmps37
    go_wp2_with fail
    go_ret
    exact ⟨by rw [HD.out]; rfl, Below.refl _ _⟩
  have t1 : decide ((140 : Int) < (n : Int)) = false := decide_eq_false (by omega)
  go_enter Tryd.func37, Tryd.ntmps37
  go_wp2_with fail
  go_loopw [10] (fun i wr => ∃ k : Nat, k ≤ n ∧ i = .int .i64 (k : Int) ∧ Hid (∀ x s, x < k → t[x]? = some s → s.un.length ≤ 70) ∧ Below w.heap.size w wr) (fun i _ => n - (intOf i).toNat)
  case atStart => exact ⟨0, Nat.zero_le _, rfl, Lib.hid (fun x s hx => by omega), Below.refl _ _⟩
  case round =>
    obtain ⟨k, hk, rfl, ha, hB⟩ := hrel
    by_cases hlt : k < n
    · obtain ⟨ad, s, U, m, d, rfl, hks, hat⟩ := (h.below hB).at_ hlt
      have HUL : Hid (s.un.length = m) := Lib.hid (by have := hat.un.len; rwa [iv_length] at this)
      obtain ⟨c0, c1, c2, c3, c4, c5, _⟩ := hat
      have HK := Lib.hid hks
      have hB2 := nxa hB (.cells #[.int .i64 s.k, .int .i64 s.id, .int .i64 s.enc, .int .i64 s.sig, .int .i64 s.hash, .slice U m d] 50)
      clear hks
      by_cases hm : m ≤ 70
      rotate_left
      · have t2 : decide ((70 : Int) < (m : Int)) = true := decide_eq_true (by omega)
        have HD : Hid (decide (Few t) = false) := Lib.hid (decide_eq_false (fun q => hm (by have := q.2 s (List.mem_of_getElem? HK.out); rwa [HUL.out] at this)))
        clear hm
        go_wp2_with fail
        go_ret
        exact ⟨by rw [HD.out]; rfl, hB2⟩
      have t2 : decide ((70 : Int) < (m : Int)) = false := decide_eq_false (by omega)
      have HY : Hid (∀ x s, x < k + 1 → t[x]? = some s → s.un.length ≤ 70) := Lib.hid (fun x u hx hu => by
        by_cases e : x = k
        · subst e; rw [HK.out] at hu; obtain rfl := Option.some.inj hu; rw [HUL.out]; exact hm
        · exact ha.out x u (by omega) hu)
      clear hm ha
      go_wp2_with fail
      go_roundw
      case rel => exact ⟨k + 1, by omega, by go_num, HY, hB2⟩
      case measure => simp [intOf]; omega
    · obtain rfl : k = n := by omega
      have HD : Hid (decide (Few t) = true) := Lib.hid (decide_eq_true ⟨by rw [HL.out]; exact hn, fun s hs => by
        obtain ⟨x, hx, rfl⟩ := List.getElem_of_mem hs
        exact ha.out x _ (by rw [← HL.out]; exact hx) (List.getElem?_eq_getElem hx)⟩)
      clear ha
      go_wp2_with fail
      go_ret
      exact ⟨by rw [HD.out]; rfl, hB⟩
end Go.Proofs.YtieeinppoiihpaaDoor
