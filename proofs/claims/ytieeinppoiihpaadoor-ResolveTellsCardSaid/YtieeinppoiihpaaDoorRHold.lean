/- The walks of resolve.Resolution, leaf, holds, Holds. -/
import Derived.Test.YtieeinppoiihpaaDoorRWalk
namespace Go.Proofs.YtieeinppoiihpaaDoor
open Go.RowKit

/-- a tree with a node -/
def HasT (t : List TN) (x : Int) : Prop := ChkT t ∧ 0 ≤ x ∧ x < (t.length : Int)
/-- a tree with a leaf -/
def HasL (t : List TN) (i : Int) : Prop := ChkT t ∧ 0 ≤ i ∧ 2 * i < (t.length : Int)
theorem HasL.has {t : List TN} {i : Int} (h : HasL t i) : HasT t (2 * i) := ⟨h.1, by have := h.2.1; omega, h.2.2⟩
def resN (t : List TN) (x : Nat) : List Int := resL t (lev x) x
theorem HasT.ins {t : List TN} {x : Int} (h : HasT t x) : Ins x.toNat (lvs t) := by
  refine ⟨h.1.1, ?_⟩
  have := h.1.2.1; have := h.2.1; have := h.2.2; omega
theorem HasT.small {t : List TN} {x : Int} (h : HasT t x) : t.length ≤ 511 := by
  have := size_le h.1.1; have := h.1.2.1; omega
theorem node_bool (A : Option Addr) (n c : Nat) (t : List TN) (x : Int) (w : World) (h : Ts w A n c t) (hn : n ≤ 1000) (hwf : Hid (∀ s ∈ t, TWf s)) (hu : Hid (∀ s ∈ t, s.un.length ≤ 1000)) (hT : Tab w) (b : Bool) (hb : b = true ↔ HasT t x) :
    Calls Tryd.prog 71 #[.slice A n c, .int .i64 x] w fun e w' => e = .returned (.bool b) ∧ Below w.heap.size w w' := by
  refine (node_ok A n c t x w h hn hwf hu hT).mono ?_
  rintro e w' ⟨rfl, hB⟩
  refine ⟨?_, hB⟩
  have hl := h.len
  congr 2
  rw [Bool.eq_iff_iff, hb, Bool.and_eq_true, decide_eq_true_iff]
  constructor
  · rintro ⟨⟨h1, h2⟩, h3⟩
    by_cases hc : ChkT t
    · exact ⟨hc, h1, by rw [hl]; exact h2⟩
    · rw [chk_no hc] at h3; simp at h3
  · rintro ⟨h1, h2, h3⟩
    refine ⟨⟨h2, by rw [← hl]; exact h3⟩, ?_⟩
    rw [chk_yes h1]; rfl
theorem res_no (A : Option Addr) (n c : Nat) (t : List TN) (x : Int) (w : World) (h : Ts w A n c t) (hn : n ≤ 1000) (hwf : Hid (∀ s ∈ t, TWf s)) (hu : Hid (∀ s ∈ t, s.un.length ≤ 1000)) (hT : Tab w) (hno : ¬ HasT t x) :
    Calls Tryd.prog 39 #[.slice A n c, .int .i64 x] w fun e w' => e = .returned (.tuple #[.slice none 0 0, .int .i64 1]) ∧ Below w.heap.size w w' := by
  have H := Lib.hid (node_bool A n c t x w h hn hwf hu hT false (by simp [hno]))
  clear h hwf hu hT hno
  go_enter Tryd.func39, Tryd.ntmps39
  go_wp2_with (go_at_call 71; refine H.out.mono ?_; rintro e w' ⟨rfl, hB⟩)
  go_ret2
  exact ⟨rfl, hB⟩
theorem res_yes (A : Option Addr) (n c : Nat) (t : List TN) (x : Nat) (w : World) (h : Ts w A n c t) (hn : n ≤ 1000) (hwf : Hid (∀ s ∈ t, TWf s)) (hu : Hid (∀ s ∈ t, s.un.length ≤ 1000)) (hT : Tab w) (hyes : HasT t (x : Int)) :
    Calls Tryd.prog 39 #[.slice A n c, .int .i64 (x : Int)] w fun e w' => ∃ B d, e = .returned (.tuple #[.slice B (resN t x).length d, .int .i64 0]) ∧ Ow w' w.heap.size 3 1 B (resN t x).length d (iv (resN t x)) ∧ Below w.heap.size w w' := by
  have H := Lib.hid (node_bool A n c t x w h hn hwf hu hT true (by simp [hyes]))
  have hi := hyes.ins
  rw [Int.toNat_natCast] at hi
  have h8 := lev_le hi.lt
  have hp : 2 ^ lev x ≤ 2 ^ 8 := Nat.pow_le_pow_right (by omega) h8
  have hL := h.len
  have hs := hyes.small
  have HW := Lib.hid (fun W hB hO => walk_ok A n c t w h (by omega) (Lib.hid hyes.1) hu hT (lev x) x [] none 0 W rfl hi hB hO (by simp only [List.length_nil]; omega))
  rw [List.nil_append] at HW
  unfold resN
  obtain ⟨r, hr⟩ : ∃ r, resL t (lev x) x = r := ⟨_, rfl⟩
  rw [hr] at HW ⊢
  clear h hwf hu hT hyes hi h8 hp hL hs hr
  go_enter Tryd.func39, Tryd.ntmps39
  go_wp2_with (first
    | (go_at_call 71; refine H.out.mono ?_; rintro e w' ⟨rfl, hB⟩)
    | (go_at_call 72; refine (HW.out _ hB (Ow.nil _ _ _ _)).mono ?_; rintro e w2 ⟨B, d, rfl, hO, hB2⟩))
  go_ret2
  exact ⟨B, d, rfl, hO, hB2⟩
theorem leaf_bool (A : Option Addr) (n c : Nat) (t : List TN) (i : Int) (w : World) (h : Ts w A n c t) (hn : n ≤ 1000) (hwf : Hid (∀ s ∈ t, TWf s)) (hu : Hid (∀ s ∈ t, s.un.length ≤ 1000)) (hT : Tab w) (b : Bool) (hb : b = true ↔ HasL t i) :
    Calls Tryd.prog 73 #[.slice A n c, .int .i64 i] w fun e w' => e = .returned (.bool b) ∧ Below w.heap.size w w' := by
  have hl := h.len
  by_cases h0 : 0 ≤ i
  rotate_left
  · have HD : Hid (b = false) := Lib.hid (by cases b; rfl; exact absurd (hb.1 rfl).2.1 h0)
    have t1 : decide (0 ≤ i) = false := decide_eq_false h0
    clear h0 h hT hb hwf hu
    go_enter Tryd.func73, Tryd.ntmps73
    go_wp2_with fail
    go_ret
    exact ⟨by rw [HD.out]; rfl, Below.refl _ _⟩
  have t1 : decide (0 ≤ i) = true := decide_eq_true h0
  by_cases h1 : i ≤ (n : Int) / 2
  rotate_left
  · have HD : Hid (b = false) := Lib.hid (by cases b; rfl; exact absurd (hb.1 rfl).2.2 (by rw [hl]; omega))
    have t2 : decide (i ≤ (n : Int) / 2) = false := decide_eq_false h1
    clear h0 h1 h hT hb hwf hu
    go_enter Tryd.func73, Tryd.ntmps73
    go_wp2_with fail
    go_ret
    exact ⟨by rw [HD.out]; rfl, Below.refl _ _⟩
  have t2 : decide (i ≤ (n : Int) / 2) = true := decide_eq_true h1
  have H := Lib.hid (node_bool A n c t (2 * i) w h hn hwf hu hT b (by rw [hb]; exact ⟨HasL.has, fun q => ⟨q.1, h0, q.2.2⟩⟩))
  clear h hT hb hwf hu
  go_enter Tryd.func73, Tryd.ntmps73
  go_wp2_with (go_at_call 71; refine H.out.mono ?_; rintro e w' ⟨rfl, hB⟩)
  go_ret
  exact ⟨rfl, hB⟩
/-- a member has a node's key -/
def HoldT (t : List TN) (i x : Nat) : Prop := kd t (2 * i) = 1 ∧ kd t x ≠ 0 ∧ loN x ≤ i ∧ i < hiN x ∧ (i : Int) ∉ und t x
instance (t : List TN) (i x : Nat) : Decidable (HoldT t i x) := by unfold HoldT; infer_instance
set_option maxRecDepth 100000 in
theorem holds_ok (A : Option Addr) (n c : Nat) (t : List TN) (i x : Nat) (w : World) (h : Ts w A n c t) (hn : n ≤ 511) (hi : 2 * i < n) (hx : x < n) (hT : Tab w) :
    Calls Tryd.prog 74 #[.slice A n c, .int .i64 (i : Int), .int .i64 (x : Int)] w fun e w' => e = .returned (.bool (decide (HoldT t i x))) ∧ w = w' := by
  have HL := Lib.hid (fun W hW => leaves_ok x W (by omega) hW)
  obtain ⟨ad, s, U, m, d, hA, hs, hat⟩ := h.at_ hi
  obtain ⟨ad', u, V, q, f, hA', hu, hau⟩ := h.at_ hx
  subst hA
  obtain rfl := Option.some.inj hA'
  have c0 := hat.c0
  have b0 := hau.c0
  have b5 := hau.c5
  have hun := hau.un
  have i1 : 2 * (i : Int) < (n : Int) := by omega
  have i2 : (x : Int) < (n : Int) := by omega
  have e1 : 2 * (i : Int) = ((2 * i : Nat) : Int) := by omega
  have i3 : (0 : Int) ≤ 2 * (i : Int) := by omega
  obtain ⟨j, hj⟩ : ∃ j, 2 * i = j := ⟨_, rfl⟩
  have HD : Hid (HoldT t i x ↔ s.k = 1 ∧ u.k ≠ 0 ∧ loN x ≤ i ∧ i < hiN x ∧ (i : Int) ∉ u.un) := Lib.hid (by unfold HoldT; rw [kd_at hs, kd_at hu, und_at hu])
  obtain ⟨lo, hlo⟩ : ∃ lo, loN x = lo := ⟨_, rfl⟩
  obtain ⟨hi', hhi⟩ : ∃ hi, hiN x = hi := ⟨_, rfl⟩
  rw [hlo, hhi] at HD HL
  rw [hj] at e1 c0 hs
  rw [e1] at i1 i3
  obtain ⟨R, hR⟩ : ∃ R, decide (HoldT t i x) = R := ⟨_, rfl⟩
  have HR : Hid (R = true ↔ s.k = 1 ∧ u.k ≠ 0 ∧ lo ≤ i ∧ i < hi' ∧ (i : Int) ∉ u.un) := Lib.hid (by rw [← HD.out, ← hR, decide_eq_true_iff])
  rw [hR]
  clear hat hau hs hu hlo hhi HD hR
  by_cases g1 : s.k = 1
  rotate_left
  · have t1 : (s.k == 1) = false := by rw [beq_eq_false_iff_ne]; exact g1
    have HF : Hid (R = false) := Lib.hid (by cases R; rfl; exact absurd (HR.out.1 rfl).1 g1)
    clear g1 hun
    go_enter Tryd.func74, Tryd.ntmps74
    go_wp2_with (go_at_call 13; refine (HL.out _ hT).mono ?_; rintro e w' ⟨rfl, rfl⟩)
    go_ret
    exact ⟨by rw [HF.out]; rfl, rfl⟩
  have t1 : (s.k == 1) = true := by rw [beq_iff_eq]; exact g1
  by_cases g2 : u.k = 0
  · have t2 : (u.k != 0) = false := by rw [bne_eq_false_iff_eq]; exact g2
    have HF : Hid (R = false) := Lib.hid (by cases R; rfl; exact absurd g2 (HR.out.1 rfl).2.1)
    clear g1 g2 hun
    go_enter Tryd.func74, Tryd.ntmps74
    go_wp2_with (go_at_call 13; refine (HL.out _ hT).mono ?_; rintro e w' ⟨rfl, rfl⟩)
    go_ret
    exact ⟨by rw [HF.out]; rfl, rfl⟩
  have t2 : (u.k != 0) = true := by rw [bne_iff_ne]; exact g2
  by_cases g3 : lo ≤ i
  rotate_left
  · have t3 : decide ((lo : Int) ≤ (i : Int)) = false := decide_eq_false (by omega)
    have t3' : decide (lo ≤ i) = false := decide_eq_false (by omega)
    have HF : Hid (R = false) := Lib.hid (by cases R; rfl; exact absurd (HR.out.1 rfl).2.2.1 g3)
    clear g1 g2 g3 hun
    go_enter Tryd.func74, Tryd.ntmps74
    go_wp2_with (go_at_call 13; refine (HL.out _ hT).mono ?_; rintro e w' ⟨rfl, rfl⟩)
    go_ret
    exact ⟨by rw [HF.out]; rfl, rfl⟩
  have t3 : decide ((lo : Int) ≤ (i : Int)) = true := decide_eq_true (by omega)
  have t3' : decide (lo ≤ i) = true := decide_eq_true (by omega)
  by_cases g4 : i < hi'
  rotate_left
  · have t4 : decide ((i : Int) < (hi' : Int)) = false := decide_eq_false (by omega)
    have t4' : decide (i < hi') = false := decide_eq_false (by omega)
    have HF : Hid (R = false) := Lib.hid (by cases R; rfl; exact absurd (HR.out.1 rfl).2.2.2.1 g4)
    clear g1 g2 g3 g4 hun
    go_enter Tryd.func74, Tryd.ntmps74
    go_wp2_with (go_at_call 13; refine (HL.out _ hT).mono ?_; rintro e w' ⟨rfl, rfl⟩)
    go_ret
    exact ⟨by rw [HF.out]; rfl, rfl⟩
  have t4 : decide ((i : Int) < (hi' : Int)) = true := decide_eq_true (by omega)
  have t4' : decide (i < hi') = true := decide_eq_true (by omega)
  have HC := cont_ok V q f u.un (i : Int) w hun
  have HF : Hid (R = !decide ((i : Int) ∈ u.un)) := Lib.hid (by
    rw [Bool.eq_iff_iff, HR.out]
    simp [g1, g2, g3, g4])
  obtain ⟨v, hv⟩ : ∃ v, decide ((i : Int) ∈ u.un) = v := ⟨_, rfl⟩
  rw [hv] at HC HF
  have HC := Lib.hid HC
  clear g1 g2 g3 g4 hun hv
  go_enter Tryd.func74, Tryd.ntmps74
  go_wp2_with (first
    | (go_at_call 13; refine (HL.out _ hT).mono ?_; rintro e w' ⟨rfl, rfl⟩)
    | (go_at_call 80; refine HC.out.mono ?_; rintro e w' ⟨rfl, rfl⟩))
  go_ret
  exact ⟨by rw [HF.out]; rfl, rfl⟩
theorem hold_no (A : Option Addr) (n c : Nat) (t : List TN) (i x : Int) (w : World) (h : Ts w A n c t) (hn : n ≤ 1000) (hwf : Hid (∀ s ∈ t, TWf s)) (hu : Hid (∀ s ∈ t, s.un.length ≤ 1000)) (hT : Tab w) (hno : ¬ (HasL t i ∧ HasT t x)) :
    Calls Tryd.prog 41 #[.slice A n c, .int .i64 i, .int .i64 x] w fun e w' => e = .returned (.tuple #[.bool false, .int .i64 1]) ∧ Below w.heap.size w w' := by
  by_cases hl : HasL t i
  · have H := Lib.hid (leaf_bool A n c t i w h hn hwf hu hT true (by simp [hl]))
    have H2 := Lib.hid (fun W hB => node_bool A n c t x W (h.below hB) hn hwf hu (hT.below' hB) false (by simp; exact fun q => hno ⟨hl, q⟩))
    clear h hwf hu hT hno hl
    go_enter Tryd.func41, Tryd.ntmps41
    go_wp2_with (first
      | (go_at_call 73; refine H.out.mono ?_; rintro e w1 ⟨rfl, hB⟩)
      | (go_at_call 71; refine (H2.out _ hB).mono ?_; rintro e w2 ⟨rfl, hB2⟩))
    go_ret2
    exact ⟨rfl, hB.trans (hB2.mono hB.size)⟩
  · have H := Lib.hid (leaf_bool A n c t i w h hn hwf hu hT false (by simp [hl]))
    clear h hwf hu hT hno hl
    go_enter Tryd.func41, Tryd.ntmps41
    go_wp2_with (go_at_call 73; refine H.out.mono ?_; rintro e w1 ⟨rfl, hB⟩)
    go_ret2
    exact ⟨rfl, hB⟩
theorem hold_yes (A : Option Addr) (n c : Nat) (t : List TN) (i x : Nat) (w : World) (h : Ts w A n c t) (hn : n ≤ 1000) (hwf : Hid (∀ s ∈ t, TWf s)) (hu : Hid (∀ s ∈ t, s.un.length ≤ 1000)) (hT : Tab w) (hl : HasL t (i : Int)) (hx : HasT t (x : Int)) :
    Calls Tryd.prog 41 #[.slice A n c, .int .i64 (i : Int), .int .i64 (x : Int)] w fun e w' => e = .returned (.tuple #[.bool (decide (HoldT t i x)), .int .i64 0]) ∧ Below w.heap.size w w' := by
  have H := Lib.hid (leaf_bool A n c t i w h hn hwf hu hT true (by simp [hl]))
  have H2 := Lib.hid (fun W hB => node_bool A n c t x W (h.below hB) hn hwf hu (hT.below' hB) true (by simp [hx]))
  have hs := hx.small
  have HLN := h.len
  have h2 := hl.2.2
  have h3 := hx.2.2
  have H3 := Lib.hid (fun W hB => holds_ok A n c t i x W (h.below hB) (by omega) (by omega) (by omega) (hT.below' hB))
  obtain ⟨R, hR⟩ : ∃ R, decide (HoldT t i x) = R := ⟨_, rfl⟩
  rw [hR] at H3 ⊢
  clear h hwf hu hT hl hx hs HLN h2 h3 hR
  go_enter Tryd.func41, Tryd.ntmps41
  go_wp2_with (first
    | (go_at_call 73; refine H.out.mono ?_; rintro e w1 ⟨rfl, hB⟩)
    | (go_at_call 71; refine (H2.out _ hB).mono ?_; rintro e w2 ⟨rfl, hB2⟩; have hB3 := hB.trans (hB2.mono hB.size))
    | (go_at_call 74; refine (H3.out _ hB3).mono ?_; rintro e w3 ⟨rfl, rfl⟩))
  go_ret2
  exact ⟨rfl, hB3⟩
end Go.Proofs.YtieeinppoiihpaaDoor
