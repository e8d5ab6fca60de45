/- The walk of the law ResolveOnce. -/
import Derived.Test.YtieeinppoiihpaaDoorR7Mem
import Derived.Test.YtieeinppoiihpaaDoorRLive
namespace Go.Proofs.YtieeinppoiihpaaDoor
open Go.RowKit

theorem few_un' {t : List TN} (h : Few t) : ∀ s ∈ t, s.un.length ≤ 1000 := fun s hs => by have := h.2 s hs; omega
def wantN (i x : Nat) : Nat := if UnderN (2 * i) x then 1 else 0
theorem holdN_next {t : List TN} {i : Nat} {l : List Int} {j : Nat} {y : Int} (h : l[j]? = some y) : holdN t i (l.take (j + 1)) = holdN t i (l.take j) + (if HoldT t i y.toNat then 1 else 0) := by
  unfold holdN
  rw [List.take_add_one, h, Option.toList_some, List.countP_append]
  congr 1
  rw [List.countP_cons, List.countP_nil]
  simp
theorem holdN_le (t : List TN) (i : Nat) (l : List Int) : holdN t i l ≤ l.length := List.countP_le_length
theorem hold_pos {t : List TN} {i : Nat} {l : List Int} {y : Int} (h : y ∈ l) (hy : HoldT t i y.toNat) : 0 < holdN t i l := by
  unfold holdN
  rw [List.countP_pos_iff]
  exact ⟨y, h, by simpa using hy⟩
theorem hold_zero {t : List TN} {i : Nat} {l : List Int} (h : ∀ y ∈ l, ¬ HoldT t i y.toNat) : holdN t i l = 0 := by
  unfold holdN
  rw [List.countP_eq_zero]
  intro y hy
  simpa using h y hy
set_option maxRecDepth 100000 in
set_option maxHeartbeats 8000000 in
theorem onceWalk (A : Option Addr) (n c : Nat) (t : List TN) (x : Int) (w : World) (h : Ts w A n c t) (hwf : Hid (∀ s ∈ t, TWf s)) (hx : -9223372036854775808 ≤ x ∧ x ≤ 9223372036854775807) (hT : Tab w) :
    Calls Tryd.prog 8 #[.slice A n c, .int .i64 x] w fun e w' => e = .returned (.bool true) ∧ Below w.heap.size w w' := by
  have HLV := Lib.hid (live_ok w hT)
  by_cases hfew : Few t
  rotate_left
  · have HF := Lib.hid (fun W hW => few_ok A n c t W hW)
    rw [decide_eq_false hfew] at HF
    clear hfew hx
    go_enter Tryd.func8, Tryd.ntmps8
    go_wp2_with fail
    refine HLV.out.mono ?_; rintro e w1 ⟨rfl, hB1⟩
    have h1 := h.below hB1
    go_wp2_with fail
    refine (HF.out _ h1).mono ?_; rintro e w2 ⟨rfl, hB2⟩
    have hB12 := hB1.trans (hB2.mono hB1.size)
    go_wp2_with fail
    go_ret
    exact ⟨rfl, hB12⟩
  have hn140 : n ≤ 140 := by have := hfew.1; rwa [h.len] at this
  have hu := Lib.hid (few_un' hfew)
  have HF := Lib.hid (fun W hW => few_ok A n c t W hW)
  rw [decide_eq_true hfew] at HF
  clear hfew
  have H7 := Lib.hid (fun W hW => check7_ok A n c t W hW hn140 hu)
  by_cases hC : ChkT t
  rotate_left
  · rw [chk_no hC] at H7
    clear hC hx
    go_enter Tryd.func8, Tryd.ntmps8
    go_wp2_with fail
    refine HLV.out.mono ?_; rintro e w1 ⟨rfl, hB1⟩
    have h1 := h.below hB1
    go_wp2_with fail
    refine (HF.out _ h1).mono ?_; rintro e w2 ⟨rfl, hB2⟩
    have hB12 := hB1.trans (hB2.mono hB1.size)
    have h2 := h.below hB12
    go_wp2_with fail
    refine (H7.out _ h2).mono ?_; rintro e w3 ⟨rfl, hB3⟩
    have hB13 := hB12.trans (hB3.mono hB12.size)
    go_wp2_with fail
    go_ret
    exact ⟨rfl, hB13⟩
  rw [chk_yes hC] at H7
  have HCH := Lib.hid hC
  by_cases h0 : x < 0
  · have t1 : decide (x < 0) = true := decide_eq_true h0
    clear hC hx h0
    go_enter Tryd.func8, Tryd.ntmps8
    go_wp2_with fail
    refine HLV.out.mono ?_; rintro e w1 ⟨rfl, hB1⟩
    have h1 := h.below hB1
    go_wp2_with fail
    refine (HF.out _ h1).mono ?_; rintro e w2 ⟨rfl, hB2⟩
    have hB12 := hB1.trans (hB2.mono hB1.size)
    have h2 := h.below hB12
    go_wp2_with fail
    refine (H7.out _ h2).mono ?_; rintro e w3 ⟨rfl, hB3⟩
    have hB13 := hB12.trans (hB3.mono hB12.size)
    go_wp2_with fail
    go_ret
    exact ⟨rfl, hB13⟩
  have t1 : decide (x < 0) = false := decide_eq_false h0
  by_cases h9 : (n : Int) ≤ x
  · have t2 : decide ((n : Int) ≤ x) = true := decide_eq_true h9
    clear hC hx h0 h9
    go_enter Tryd.func8, Tryd.ntmps8
    go_wp2_with fail
    refine HLV.out.mono ?_; rintro e w1 ⟨rfl, hB1⟩
    have h1 := h.below hB1
    go_wp2_with fail
    refine (HF.out _ h1).mono ?_; rintro e w2 ⟨rfl, hB2⟩
    have hB12 := hB1.trans (hB2.mono hB1.size)
    have h2 := h.below hB12
    go_wp2_with fail
    refine (H7.out _ h2).mono ?_; rintro e w3 ⟨rfl, hB3⟩
    have hB13 := hB12.trans (hB3.mono hB12.size)
    go_wp2_with fail
    go_ret
    exact ⟨rfl, hB13⟩
  have hhas : HasT t x := ⟨hC, by omega, by rw [h.len]; omega⟩
  obtain ⟨x, rfl⟩ : ∃ x' : Nat, x = x' := ⟨x.toNat, by omega⟩
  have t2 : decide ((n : Int) ≤ (x : Int)) = false := decide_eq_false h9
  have t2' : decide (n ≤ x) = false := decide_eq_false (by omega)
  have t2'' : x < n := by omega
  have hins := hhas.ins
  rw [Int.toNat_natCast] at hins
  have hx511 : x < 511 := hins.lt
  have HR := Lib.hid (fun W hW hT => res_yes A n c t x W hW (by omega) hwf hu hT hhas)
  have HM := Lib.hid (fun W hW => members_ok A n c t W hW hn140 hu HCH)
  have hIN : Hid (∀ y ∈ resN t x, InRes t x y) := Lib.hid (res_inN hhas)
  have HCNT : Hid (∀ i : Nat, Pres t (i : Int) → holdN t i (resN t x) = if UnderN (2 * i) x then 1 else 0) := Lib.hid (fun i hi => res_count hC hi (lev x) x hins rfl)
  have HMI := Lib.hid (fun (i : Nat) W hW hT hl => mine_yes A n c t i x W hW (by omega) hwf hu hT hl hhas)
  have HHO := Lib.hid (fun (i y : Nat) W hW hT hl hy => hold_yes A n c t i y W hW (by omega) hwf hu hT hl hy)
  have hlen := Lib.hid h.len
  have hrl : (resN t x).length ≤ 1000000 := by
    have h1 := res_len hu.out (lev x) x
    have h8 := lev_le hx511
    have hp : 2 ^ lev x ≤ 2 ^ 8 := Nat.pow_le_pow_right (by omega) h8
    unfold resN; omega
  have HPRE : Hid (∀ i ∈ memT t (lvs t), ∃ j : Nat, i = j ∧ j < 256 ∧ Pres t (j : Int) ∧ HasL t (j : Int)) := Lib.hid (fun i hi => by
    obtain ⟨j, rfl, h1, h2⟩ := mem_memT hi
    have hs := size_le hC.1
    have hl := hC.2.1
    exact ⟨j, rfl, by omega, ⟨by omega, by omega, by rw [Int.toNat_natCast]; exact h2⟩, ⟨hC, by omega, by omega⟩⟩)
  unfold MineP at HMI
  obtain ⟨r, hr⟩ : ∃ r, resN t x = r := ⟨_, rfl⟩
  rw [hr] at HR hIN HCNT HMI hrl
  obtain ⟨M, hM⟩ : ∃ M, memT t (lvs t) = M := ⟨_, rfl⟩
  rw [hM] at HM HPRE
  have HMLen : Hid (M.length ≤ 256) := Lib.hid (by rw [← hM]; have := memT_len t (lvs t); have := size_le hC.1; omega)
  clear hhas hx hr hM hC h0 h9 hins
  go_enter Tryd.func8, Tryd.ntmps8
  go_wp2_with fail
  refine HLV.out.mono ?_; rintro e w1 ⟨rfl, hB1⟩
  have h1 := h.below hB1
  go_wp2_with fail
  refine (HF.out _ h1).mono ?_; rintro e w2 ⟨rfl, hB2⟩
  have hB12 := hB1.trans (hB2.mono hB1.size)
  have h2 := h.below hB12
  go_wp2_with fail
  refine (H7.out _ h2).mono ?_; rintro e w3 ⟨rfl, hB3⟩
  have hB13 := hB12.trans (hB3.mono hB12.size)
  have h3 := h.below hB13
  have hT3 := hT.below' hB13
  clear h1 h2 hB1 hB2 hB3 hB12
  go_wp2_with fail
  refine (HR.out _ h3 hT3).mono ?_; rintro e w4 ⟨R, rd, rfl, hO4, hB4⟩
  have hB14 := hB13.trans (hB4.mono hB13.size)
  have h4 := h.below hB14
  obtain ⟨q, hq⟩ : ∃ q, r.length = q := ⟨_, rfl⟩
  have HQ := Lib.hid hq
  have hS4 := hO4.sl
  rw [hq] at hS4 hrl ⊢
  clear h3 hT3 hB4 hB13 hO4 hq
  go_wp2_with fail
  refine (HM.out _ h4).mono ?_; rintro e w5 ⟨E, ed, rfl, hO5, hB5⟩
  have hB15 := hB14.trans (hB5.mono hB14.size)
  have hS5 := hS4.below hB5
  have hM5 := hO5.sl
  have h5 := h.below hB15
  have hT5 := hT.below' hB15
  obtain ⟨p, hp⟩ : ∃ p, M.length = p := ⟨_, rfl⟩
  have HP := Lib.hid hp
  rw [hp] at hM5 HMLen ⊢
  have hp256 := HMLen.out
  clear h4 hS4 hB5 hB14 hO5 hp h hT
  go_wp2_with fail
  go_loopw [49] (fun i wr => ∃ k : Nat, k ≤ p ∧ i = .int .i64 (k : Int) ∧ Below w5.heap.size w5 wr) (fun i _ => p - (intOf i).toNat)
  case atStart => exact ⟨0, Nat.zero_le _, rfl, Below.refl _ _⟩
  case round =>
    obtain ⟨k, hk, rfl, hB0⟩ := hrel
    by_cases hlt : k < p
    · obtain ⟨au, hlu, rfl, hcu⟩ := (hM5.below hB0).int hlt
      obtain ⟨i, hi⟩ : ∃ i, M[k]'hlu = i := ⟨_, rfl⟩
      have hi2 : M[k]? = some i := by rw [List.getElem?_eq_getElem hlu, hi]
      rw [hi] at hcu
      obtain ⟨j, rfl, hj256, hjp, hjl⟩ := HPRE.out i (List.mem_of_getElem? hi2)
      have HJP := Lib.hid hjp
      have HJL := Lib.hid hjl
      clear hi hi2 hjp
      go_wp2_with fail
      go_loopw [10, 55] (fun mv iv' w6 => ∃ (a b : Nat), a ≤ q ∧ iv' = .int .i64 (a : Int) ∧ mv = .int .i64 (b : Int) ∧ b ≤ a ∧ Hid (b = holdN t j (r.take a)) ∧ Below w5.heap.size w5 w6) (fun _ iv' _ => q - (intOf iv').toNat)
      case atStart => exact ⟨0, 0, Nat.zero_le _, rfl, rfl, Nat.le_refl _, Lib.hid (by simp [holdN]), hB0⟩
      case round =>
        clear hcu
        obtain ⟨a, b, ha, rfl, rfl, hba, HB, hB⟩ := hrel
        by_cases hla : a < q
        · obtain ⟨av, hlv, rfl, hcv⟩ := (hS5.below hB).int hla
          obtain ⟨y, hy⟩ : ∃ y, r[a]'hlv = y := ⟨_, rfl⟩
          have hy2 : r[a]? = some y := by rw [List.getElem?_eq_getElem hlv, hy]
          rw [hy] at hcv
          have HNX := Lib.hid (holdN_next (t := t) (i := j) hy2)
          obtain ⟨z, rfl, hz1, hz2, hz3⟩ := hIN.out y (List.mem_of_getElem? hy2)
          have hcall := HHO.out j z _ (h5.below hB) (hT5.below' hB) HJL.out ⟨HCH.out, by omega, by omega⟩
          rw [Int.toNat_natCast] at HNX
          clear hy hy2 hz1 hz2 hz3
          by_cases hh : HoldT t j z
          · rw [decide_eq_true hh] at hcall
            have HC := Lib.hid hcall
            have HB2 : Hid (b + 1 = holdN t j (r.take (a + 1))) := Lib.hid (by rw [HNX.out, if_pos hh, HB.out])
            clear hcall hh HNX HB
            go_wp2_with fail
            refine HC.out.mono ?_; rintro e w7 ⟨rfl, hB7⟩
            have hB57 := hB.trans (hB7.mono hB.size)
            clear hB7
            go_wp2_with fail
            go_roundw
            case rel => exact ⟨a + 1, b + 1, by omega, by go_num, by go_num, by omega, HB2, hB57⟩
            case measure => simp [intOf]; omega
          · rw [decide_eq_false hh] at hcall
            have HC := Lib.hid hcall
            have HB2 : Hid (b = holdN t j (r.take (a + 1))) := Lib.hid (by rw [HNX.out, if_neg hh, HB.out, Nat.add_zero])
            clear hcall hh HNX HB
            go_wp2_with fail
            refine HC.out.mono ?_; rintro e w7 ⟨rfl, hB7⟩
            have hB57 := hB.trans (hB7.mono hB.size)
            clear hB7
            go_wp2_with fail
            go_roundw
            case rel => exact ⟨a + 1, b, by omega, by go_num, rfl, by omega, HB2, hB57⟩
            case measure => simp [intOf]; omega
        · obtain rfl : a = q := by omega
          have hbw : b = if UnderN (2 * j) x then 1 else 0 := by
            have := HCNT.out j HJP.out
            rw [HB.out, ← HQ.out, List.take_length]; exact this
          have HHN : Hid (holdN t j r = b) := Lib.hid (by rw [HB.out, ← HQ.out, List.take_length])
          have hUN := fun W => under_ok (2 * j) x W (by omega) hx511
          have e1 : 2 * (j : Int) = ((2 * j : Nat) : Int) := by omega
          clear HB
          by_cases hun : UnderN (2 * j) x
          · rw [if_pos hun] at hbw
            subst hbw
            rw [decide_eq_true hun] at hUN
            obtain ⟨j2, hj2⟩ : ∃ j2, 2 * j = j2 := ⟨_, rfl⟩
            rw [hj2] at hUN e1
            have HUN := Lib.hid hUN
            clear hUN hun hj2
            go_wp2_with fail
            refine (HUN.out _).mono ?_; rintro e w' ⟨rfl, rfl⟩
            go_wp2_with fail
            refine (HMI.out j _ (h5.below hB) (hT5.below' hB) HJL.out).mono ?_; rintro e w7 ⟨y, ry, rfl, hy, hB7⟩
            have hB57 := hB.trans (hB7.mono hB.size)
            clear hB7
            rcases hy with ⟨rfl, hy1, hy2⟩ | ⟨rfl, rfl, hy2⟩
            rotate_left
            · exfalso
              have := hold_zero hy2
              rw [HHN.out] at this; omega
            have hIQ := in_ok R a rd r y w7 (hS5.below hB57)
            rw [decide_eq_true hy1] at hIQ
            have HI := Lib.hid hIQ
            clear hIQ hy1 hy2
            go_wp2_with (go_at_call 44; refine HI.out.mono ?_; rintro e w' ⟨rfl, rfl⟩)
            go_roundw
            case rel => exact ⟨k + 1, by omega, by go_num, hB57⟩
            case measure => simp [intOf]; omega
          · rw [if_neg hun] at hbw
            subst hbw
            rw [decide_eq_false hun] at hUN
            obtain ⟨j2, hj2⟩ : ∃ j2, 2 * j = j2 := ⟨_, rfl⟩
            rw [hj2] at hUN e1
            have HUN := Lib.hid hUN
            clear hUN hun hj2
            go_wp2_with fail
            refine (HUN.out _).mono ?_; rintro e w' ⟨rfl, rfl⟩
            go_wp2_with fail
            refine (HMI.out j _ (h5.below hB) (hT5.below' hB) HJL.out).mono ?_; rintro e w7 ⟨y, ry, rfl, hy, hB7⟩
            have hB57 := hB.trans (hB7.mono hB.size)
            clear hB7
            rcases hy with ⟨rfl, hy1, hy2⟩ | ⟨rfl, rfl, hy2⟩
            · exfalso
              have := hold_pos hy1 hy2
              rw [HHN.out] at this; omega
            clear hy2
            go_wp2_with fail
            go_roundw
            case rel => exact ⟨k + 1, by omega, by go_num, hB57⟩
            case measure => simp [intOf]; omega
    · obtain rfl : k = p := by omega
      have hBf := hB15.trans (hB0.mono hB15.size)
      go_wp2_with fail
      go_ret
      exact ⟨rfl, hBf⟩
end Go.Proofs.YtieeinppoiihpaaDoor
