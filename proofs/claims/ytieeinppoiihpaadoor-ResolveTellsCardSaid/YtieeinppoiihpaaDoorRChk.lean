/- The walks of ratchet's leaves, present, half, zero, leaf. -/
import Derived.Test.YtieeinppoiihpaaDoorRCompact
namespace Go.Proofs.YtieeinppoiihpaaDoor
open Go.RowKit

/-- a node's kind, and who has not its key -/
def kd (t : List TN) (j : Nat) : Int := ((t[j]?).map TN.k).getD 0
def und (t : List TN) (j : Nat) : List Int := ((t[j]?).map TN.un).getD []
theorem kd_at {t : List TN} {j : Nat} {s : TN} (h : t[j]? = some s) : kd t j = s.k := by unfold kd; rw [h]; rfl
theorem und_at {t : List TN} {j : Nat} {s : TN} (h : t[j]? = some s) : und t j = s.un := by unfold und; rw [h]; rfl
def lvs (t : List TN) : Nat := (t.length + 1) / 2
/-- a leaf is there -/
def Pres (t : List TN) (i : Int) : Prop := 0 ≤ i ∧ i < (lvs t : Int) ∧ kd t (2 * i.toNat) = 1
instance (t : List TN) (i : Int) : Decidable (Pres t i) := by unfold Pres; infer_instance
theorem leaves_len (A : Option Addr) (n c : Nat) (w : World) (hn : n ≤ 1000) : Calls Tryd.prog 93 #[.slice A n c] w fun e w' => e = .returned (.int .i64 ((n + 1) / 2 : Nat)) ∧ w = w' := by
  have e : ((n : Int) + 1) / 2 = (((n + 1) / 2 : Nat) : Int) := by omega
  obtain ⟨m, hm⟩ : ∃ m, (n + 1) / 2 = m := ⟨_, rfl⟩
  rw [hm] at e ⊢
  go_enter Tryd.func93, Tryd.ntmps93
  go_wp2_with fail
  go_ret
  exact ⟨by first | rfl | simp [e], rfl⟩
theorem present_ok (A : Option Addr) (n c : Nat) (t : List TN) (i : Int) (w : World) (h : Ts w A n c t) (hn : n ≤ 1000) :
    Calls Tryd.prog 98 #[.slice A n c, .int .i64 i] w fun e w' => e = .returned (.bool (decide (Pres t i))) ∧ w = w' := by
  have HL := Lib.hid h.len
  have H := Lib.hid (fun W => leaves_len A n c W hn)
  have hlv : Hid (lvs t = (n + 1) / 2) := Lib.hid (by unfold lvs; rw [h.len])
  obtain ⟨m, hm⟩ : ∃ m, (n + 1) / 2 = m := ⟨_, rfl⟩
  rw [hm] at H hlv
  have HM := Lib.hid hm
  clear hm
  by_cases h0 : i < 0
  · have t1 : decide (0 ≤ i) = false := decide_eq_false (by omega)
    have HD : Hid (decide (Pres t i) = false) := Lib.hid (decide_eq_false (fun q => by have := q.1; omega))
    clear h0
    go_enter Tryd.func98, Tryd.ntmps98
    go_wp2_with fail
    go_ret
    exact ⟨by rw [HD.out]; rfl, rfl⟩
  · have t1 : decide (0 ≤ i) = true := decide_eq_true (by omega)
    by_cases h1 : i < (m : Int)
    · obtain ⟨j, rfl⟩ : ∃ j : Nat, i = j := ⟨i.toNat, by omega⟩
      have hj2 : 2 * j < n := by have := HM.out; omega
      obtain ⟨ad, s, B, q, d, rfl, hs, hat⟩ := h.at_ hj2
      have hc := hat.c0
      have t2 : decide ((j : Int) < (m : Int)) = true := decide_eq_true h1
      have t3 : decide (j < m) = true := decide_eq_true (by omega)
      have t4 : j < m := by omega
      have i1 : 2 * (j : Int) < (n : Int) := by omega
      have i2 : (0 : Int) ≤ 2 * (j : Int) := by omega
      have e1 : 2 * (j : Int) = ((2 * j : Nat) : Int) := by omega
      obtain ⟨p, hp⟩ : ∃ p, 2 * j = p := ⟨_, rfl⟩
      rw [hp] at hs hc e1 hj2
      have HD : Hid (decide (Pres t (j : Int)) = (s.k == 1)) := Lib.hid (by
        have hk := kd_at hs
        by_cases e : s.k = 1
        · rw [e]; exact decide_eq_true ⟨by omega, by rw [hlv.out]; exact h1, by rw [Int.toNat_natCast, hp, hk, e]⟩
        · rw [show (s.k == 1) = false by rw [beq_eq_false_iff_ne]; exact e]
          exact decide_eq_false (fun q => e (by have := q.2.2; rw [Int.toNat_natCast, hp, hk] at this; exact this)))
      clear hs hat h1 hp h0
      rw [e1] at i1 i2
      go_enter Tryd.func98, Tryd.ntmps98
      go_wp2_with (go_at_call 93; refine (H.out _).mono ?_; rintro e w' ⟨rfl, rfl⟩)
      go_ret
      exact ⟨by rw [HD.out]; rfl, rfl⟩
    · have t2 : decide (i < (m : Int)) = false := decide_eq_false h1
      have HD : Hid (decide (Pres t i) = false) := Lib.hid (decide_eq_false (fun q => by have := q.2.1; rw [hlv.out] at this; omega))
      clear h1 h0
      go_enter Tryd.func98, Tryd.ntmps98
      go_wp2_with (go_at_call 93; refine (H.out _).mono ?_; rintro e w' ⟨rfl, rfl⟩)
      go_ret
      exact ⟨by rw [HD.out]; rfl, rfl⟩
theorem half_ok (A : Option Addr) (n c : Nat) (t : List TN) (w : World) (h : Ts w A n c t) (hn : n ≤ 1000) :
    Calls Tryd.prog 94 #[.slice A n c] w fun e w' => BoolIs e (∀ i : Nat, lvs t / 2 ≤ i → i < lvs t → ¬ Pres t i) ∧ w = w' := by
  have H := Lib.hid (leaves_len A n c w hn)
  have H2 := Lib.hid (fun i => present_ok A n c t i w h hn)
  have hlv : Hid (lvs t = (n + 1) / 2) := Lib.hid (by unfold lvs; rw [h.len])
  obtain ⟨m, hm⟩ : ∃ m, (n + 1) / 2 = m := ⟨_, rfl⟩
  rw [hm] at H hlv
  have hmb : m ≤ 1000 := by omega
  clear hm
  have e1 : (m : Int) / 2 = ((m / 2 : Nat) : Int) := by omega
  obtain ⟨p, hp⟩ : ∃ p, m / 2 = p := ⟨_, rfl⟩
  rw [hp] at e1
  have HP := Lib.hid hp
  have hpm : p ≤ m := by omega
  clear hp
  go_enter Tryd.func94, Tryd.ntmps94
  go_wp2_with (go_at_call 93; refine H.out.mono ?_; rintro e w' ⟨rfl, rfl⟩)
  go_loop [4] (fun i => ∃ k : Nat, p ≤ k ∧ k ≤ m ∧ i = .int .i64 (k : Int) ∧ Hid (∀ i : Nat, p ≤ i → i < k → ¬ Pres t i)) (fun i => m - (intOf i).toNat)
  case atStart => exact ⟨p, Nat.le_refl _, hpm, rfl, Lib.hid (fun i h1 h2 => by omega)⟩
  case round =>
    obtain ⟨k, hk1, hk, rfl, ha⟩ := hrel
    by_cases hlt : k < m
    · by_cases hpr : Pres t (k : Int)
      · have HD : Hid (decide (Pres t (k : Int)) = true) := Lib.hid (decide_eq_true hpr)
        have HN : Hid (¬ ∀ i : Nat, lvs t / 2 ≤ i → i < lvs t → ¬ Pres t i) := Lib.hid (fun q => q k (by rw [hlv.out, HP.out]; exact hk1) (by rw [hlv.out]; exact hlt) hpr)
        have hcall := H2.out (k : Int)
        rw [HD.out] at hcall
        have HC := Lib.hid hcall
        clear hpr hcall
        go_wp2_with (go_at_call 98; refine HC.out.mono ?_; rintro e w' ⟨rfl, rfl⟩)
        go_ret
        exact ⟨⟨false, rfl, ⟨nofun, fun q => absurd q HN.out⟩⟩, rfl⟩
      · have HD : Hid (decide (Pres t (k : Int)) = false) := Lib.hid (decide_eq_false hpr)
        have HA2 : Hid (∀ i : Nat, p ≤ i → i < k + 1 → ¬ Pres t i) := Lib.hid (fun i h1 h2 => by
          by_cases e : i = k
          · subst e; exact hpr
          · exact ha.out i h1 (by omega))
        have hcall := H2.out (k : Int)
        rw [HD.out] at hcall
        have HC := Lib.hid hcall
        clear hpr hcall ha
        go_wp2_with (go_at_call 98; refine HC.out.mono ?_; rintro e w' ⟨rfl, rfl⟩)
        go_round
        case rel => exact ⟨k + 1, by omega, by omega, by go_num, HA2⟩
        case measure => simp [intOf]; omega
    · obtain rfl : k = m := by omega
      have HA : Hid (∀ i : Nat, lvs t / 2 ≤ i → i < lvs t → ¬ Pres t i) := Lib.hid (fun i h1 h2 => ha.out i (by rw [hlv.out, HP.out] at h1; exact h1) (by rw [hlv.out] at h2; exact h2))
      clear ha
      go_wp2_with fail
      go_ret
      exact ⟨⟨true, rfl, ⟨fun _ => HA.out, fun _ => rfl⟩⟩, rfl⟩
/-- a node's value -/
def tv (s : TN) (A : Option Addr) (n c : Nat) : Value := .agg #[.int .i64 s.k, .int .i64 s.id, .int .i64 s.enc, .int .i64 s.sig, .int .i64 s.hash, .slice A n c]
def LeafT (s : TN) : Prop := s.k = 1 ∧ s.un = []
def ZeroT (s : TN) : Prop := s.k = 0 ∧ s.id = 0 ∧ s.enc = 0 ∧ s.sig = 0 ∧ s.hash = 0 ∧ s.un = []
theorem un_nil {w : World} {s : TN} {A : Option Addr} {n c : Nat} (h : Sl w A n c (iv s.un)) : s.un = [] ↔ n = 0 := by
  have hl : s.un.length = n := by have := h.len; rwa [iv_length] at this
  exact ⟨fun e => by rw [← hl, e]; rfl, fun e => List.eq_nil_of_length_eq_zero (by omega)⟩
theorem leafn_ok (s : TN) (A : Option Addr) (n c : Nat) (w : World) (h : Sl w A n c (iv s.un)) :
    Calls Tryd.prog 96 #[tv s A n c] w fun e w' => BoolIs e (LeafT s) ∧ Below w.heap.size w w' := by
  have H0 := Lib.hid (un_nil h)
  clear h
  unfold tv
  by_cases hk : s.k = 1
  · have t1 : (s.k == 1) = true := by rw [beq_iff_eq]; exact hk
    have t2 : ((n : Int) == 0) = decide (n = 0) := by
      by_cases e : n = 0
      · subst e; rfl
      · rw [decide_eq_false e, beq_eq_false_iff_ne]; omega
    obtain ⟨b, hb⟩ : ∃ b, decide (n = 0) = b := ⟨_, rfl⟩
    rw [hb] at t2
    have HD : Hid (b = true ↔ LeafT s) := Lib.hid (by rw [← hb, decide_eq_true_iff]; exact ⟨fun q => ⟨hk, H0.out.2 q⟩, fun q => H0.out.1 q.2⟩)
    clear hk hb
    go_enter Tryd.func96, Tryd.ntmps96
    go_wp2_with fail
    go_ret
    exact ⟨⟨b, rfl, HD.out⟩, (Below.refl _ w).alloc (Nat.le_refl _) _⟩
  · have t1 : (s.k == 1) = false := by rw [beq_eq_false_iff_ne]; exact hk
    have HD : Hid (¬ LeafT s) := Lib.hid (fun q => hk q.1)
    clear hk
    go_enter Tryd.func96, Tryd.ntmps96
    go_wp2_with fail
    go_ret
    exact ⟨⟨false, rfl, ⟨nofun, fun q => absurd q HD.out⟩⟩, (Below.refl _ w).alloc (Nat.le_refl _) _⟩
theorem ofInt_zero {x : Int} (h : W64 x) : BitVec.ofInt 64 x = 0#64 ↔ x = 0 := by
  constructor
  · intro e
    have := congrArg BitVec.toNat e
    rw [BitVec.toNat_ofInt] at this
    unfold W64 at h
    simp at this
    omega
  · rintro rfl; rfl
theorem or_w64 (x y : Int) : W64 (bits .or .i64 x y) := by
  unfold bits W64
  rw [IntKind.wrap_i64]
  omega
theorem or_zero {x y : Int} (hx : W64 x) (hy : W64 y) : bits .or .i64 x y = 0 ↔ x = 0 ∧ y = 0 := by
  have key : bits .or .i64 x y = 0 ↔ (BitVec.ofInt 64 x ||| BitVec.ofInt 64 y) = 0#64 := by
    unfold bits
    rw [IntKind.wrap_i64]
    show ((((BitVec.ofInt 64 x ||| BitVec.ofInt 64 y).toNat : Int) + 9223372036854775808) % 18446744073709551616 - 9223372036854775808 = 0) ↔ _
    have hlt := (BitVec.ofInt 64 x ||| BitVec.ofInt 64 y).isLt
    rw [show (2 : Nat) ^ 64 = 18446744073709551616 by decide] at hlt
    constructor
    · intro e
      apply BitVec.eq_of_toNat_eq
      show _ = 0
      omega
    · intro e
      have e0 : (0#64).toNat = 0 := by simp
      rw [e, e0]; omega
  rw [key, BitVec.or_eq_zero_iff, ofInt_zero hx, ofInt_zero hy]
theorem zero_ok (s : TN) (A : Option Addr) (n c : Nat) (w : World) (hw : Hid (TWf s)) (h : Sl w A n c (iv s.un)) :
    Calls Tryd.prog 95 #[tv s A n c] w fun e w' => BoolIs e (ZeroT s) ∧ Below w.heap.size w w' := by
  have H0 := Lib.hid (un_nil h)
  clear h
  have hz : bits .or .i64 (bits .or .i64 (bits .or .i64 (bits .or .i64 s.k s.id) s.enc) s.sig) s.hash = 0 ↔ s.k = 0 ∧ s.id = 0 ∧ s.enc = 0 ∧ s.sig = 0 ∧ s.hash = 0 := by
    obtain ⟨h1, h2, h3, h4, h5⟩ := hw.out
    rw [or_zero (or_w64 _ _) h5, or_zero (or_w64 _ _) h4, or_zero (or_w64 _ _) h3, or_zero h1 h2]
    exact ⟨fun ⟨⟨⟨⟨a, b⟩, c⟩, d⟩, e⟩ => ⟨a, b, c, d, e⟩, fun ⟨a, b, c, d, e⟩ => ⟨⟨⟨⟨a, b⟩, c⟩, d⟩, e⟩⟩
  clear hw
  have t2 : ((n : Int) == 0) = decide (n = 0) := by
    by_cases e : n = 0
    · subst e; rfl
    · rw [decide_eq_false e, beq_eq_false_iff_ne]; omega
  obtain ⟨b, hb⟩ : ∃ b, decide (n = 0) = b := ⟨_, rfl⟩
  rw [hb] at t2
  unfold tv
  by_cases hk : bits .or .i64 (bits .or .i64 (bits .or .i64 (bits .or .i64 s.k s.id) s.enc) s.sig) s.hash = 0
  · have t1 : (bits .or .i64 (bits .or .i64 (bits .or .i64 (bits .or .i64 s.k s.id) s.enc) s.sig) s.hash == 0) = true := by rw [beq_iff_eq]; exact hk
    have HD : Hid (b = true ↔ ZeroT s) := Lib.hid (by
      rw [← hb, decide_eq_true_iff]
      have hz1 := hz.1 hk
      exact ⟨fun q => ⟨hz1.1, hz1.2.1, hz1.2.2.1, hz1.2.2.2.1, hz1.2.2.2.2, H0.out.2 q⟩, fun q => H0.out.1 q.2.2.2.2.2⟩)
    clear hk hb hz
    go_enter Tryd.func95, Tryd.ntmps95
    go_wp2_with fail
    go_ret
    exact ⟨⟨b, rfl, HD.out⟩, (Below.refl _ w).alloc (Nat.le_refl _) _⟩
  · have t1 : (bits .or .i64 (bits .or .i64 (bits .or .i64 (bits .or .i64 s.k s.id) s.enc) s.sig) s.hash == 0) = false := by rw [beq_eq_false_iff_ne]; exact hk
    have HD : Hid (¬ ZeroT s) := Lib.hid (fun q => hk (hz.2 ⟨q.1, q.2.1, q.2.2.1, q.2.2.2.1, q.2.2.2.2.1⟩))
    clear hk hb hz t2
    go_enter Tryd.func95, Tryd.ntmps95
    go_wp2_with fail
    go_ret
    exact ⟨⟨false, rfl, ⟨nofun, fun q => absurd q HD.out⟩⟩, (Below.refl _ w).alloc (Nat.le_refl _) _⟩
end Go.Proofs.YtieeinppoiihpaaDoor
