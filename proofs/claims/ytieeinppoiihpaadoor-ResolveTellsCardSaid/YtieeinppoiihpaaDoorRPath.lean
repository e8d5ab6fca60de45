/- The walk of resolve.Path. -/
import Derived.Test.YtieeinppoiihpaaDoorRPath8
import Derived.Test.YtieeinppoiihpaaDoorRHold
import Derived.Test.YtieeinppoiihpaaDoorNodes3
namespace Go.Proofs.YtieeinppoiihpaaDoor
open Go.RowKit

theorem path_no_ (A : Option Addr) (n c : Nat) (t : List TN) (i : Int) (w : World) (h : Ts w A n c t) (hn : n ≤ 140) (hwf : Hid (∀ s ∈ t, TWf s)) (hT : Tab w) (hu : Hid (∀ s ∈ t, s.un.length ≤ 1000)) (hno : ¬ HasL t i) :
    Calls Tryd.prog 47 #[.slice A n c, .int .i64 i] w fun e w' => e = .returned (.tuple #[.slice none 0 0, .slice none 0 0, .int .i64 1]) ∧ Below w.heap.size w w' := by
  have H := Lib.hid (leaf_bool A n c t i w h (by omega) hwf hu hT false (by simp [hno]))
  clear h hu hno hwf hT
  go_enter Tryd.func47, Tryd.ntmps47
  go_wp2_with (go_at_call 73; refine H.out.mono ?_; rintro e w' ⟨rfl, hB⟩)
  go_ret3
  exact ⟨rfl, hB⟩
set_option maxRecDepth 100000 in
set_option maxHeartbeats 8000000 in
theorem path_yes_ (A : Option Addr) (n c : Nat) (t : List TN) (i : Nat) (w : World) (h : Ts w A n c t) (hn : n ≤ 140) (hwf : Hid (∀ s ∈ t, TWf s)) (hT : Tab w) (hu : Hid (∀ s ∈ t, s.un.length ≤ 1000)) (hl : HasL t (i : Int)) :
    Calls Tryd.prog 47 #[.slice A n c, .int .i64 (i : Int)] w (PPost w (selN t (pathL (2 * i) (lvs t)) (copL (2 * i) (lvs t)) (pathL (2 * i) (lvs t)).length) (selN t (copL (2 * i) (lvs t)) (copL (2 * i) (lvs t)) (pathL (2 * i) (lvs t)).length)) := by
  have H := Lib.hid (leaf_bool A n c t (i : Int) w h (by omega) hwf hu hT true (by simp [hl]))
  have hins : Ins (2 * i) (lvs t) := by have := hl.has.ins; rwa [show (2 * (i : Int)).toNat = 2 * i by omega] at this
  have HRES := Lib.hid (fun (y : Nat) W (hW : Ts W A n c t) (hTW : Tab W) (hy : Ins y (lvs t)) => walk_ok A n c t W hW (by omega) (Lib.hid hl.1) hu hTW (lev y) y [] none 0 W rfl hy (Below.refl _ _) (Ow.nil _ _ _ _) (by
    have hp : 2 ^ lev y ≤ 2 ^ 8 := Nat.pow_le_pow_right (by omega) (lev_le hy.lt)
    show 0 + 1001 * 2 ^ lev y ≤ 1000000
    omega))
  have HR : Hid (∀ y, resL t (lev y) y = resN t y) := Lib.hid (fun y => rfl)
  have hlen := h.len
  have hcl := hl.1.2.1
  have hs := size_le hl.1.1
  obtain ⟨N, hN⟩ : ∃ N, lvs t = N := ⟨_, rfl⟩
  rw [hN] at hins hcl hs HRES ⊢
  have hi2 : 2 * (i : Int) < (n : Int) := by have := hl.2.2; rw [hlen] at this; exact this
  obtain ⟨hcp, hp8⟩ := two_len hins
  have HCI := Lib.hid (copL_ins hins)
  have HP := Lib.hid (fun W hW => path_ok (2 * i) N W hins hW)
  have HC := Lib.hid (fun W hW => cop_ok (2 * i) N W hins hW)
  obtain ⟨P, hP⟩ : ∃ P, pathL (2 * i) N = P := ⟨_, rfl⟩
  obtain ⟨C, hC⟩ : ∃ C, copL (2 * i) N = C := ⟨_, rfl⟩
  rw [hP] at HP hcp hp8 ⊢
  rw [hC] at HC hcp HCI ⊢
  obtain ⟨L, hL⟩ : ∃ L, P.length = L := ⟨_, rfl⟩
  rw [hL] at HP hcp hp8 ⊢
  rw [hcp] at HC
  have e1 : 2 * (i : Int) = ((2 * i : Nat) : Int) := by omega
  have e2 : ((n : Int) + 1) / 2 = (N : Int) := by omega
  obtain ⟨i2, hii⟩ : ∃ i2, 2 * i = i2 := ⟨_, rfl⟩
  rw [hii] at e1 HP HC
  have hib : i2 ≤ 511 := by have := hins.2; omega
  have HLP := Lib.hid hL; have HLC := Lib.hid hcp
  clear hN hi2 hP hC hL hcp hii hl hins hlen hcl
  go_enter Tryd.func47, Tryd.ntmps47
  go_wp2_with (go_at_call 73; refine H.out.mono ?_; rintro e w1 ⟨rfl, hB1⟩)
  refine (HP.out _ (hT.below' hB1)).mono ?_; rintro e w2 ⟨PA, pc, rfl, hP2, hB2⟩
  have hB12 := hB1.trans (hB2.mono hB1.size)
  go_wp2_with fail
  refine (HC.out _ (hT.below' hB12)).mono ?_; rintro e w3 ⟨CA, cc, rfl, hC3, hB3⟩
  have hB13 := hB12.trans (hB3.mono hB12.size)
  have hP3 := (hP2.sl).below hB3
  have hC3' := hC3.sl
  clear hP2 hC3 hB1 hB2 hB3 hB12
  go_wp2_with fail
  go_loopw [12, 13, 40] (fun nv ov iv' wr => ∃ (k : Nat) (A1 B1 : Option Addr) (c1 d1 : Nat) (l m : List Int), k ≤ L ∧ iv' = .int .i64 (k : Int) ∧ nv = .slice A1 l.length c1 ∧ ov = .slice B1 m.length d1 ∧ Hid (l = selN t P C k) ∧ Hid (m = selN t C C k) ∧ Ow wr w3.heap.size 3 1 A1 l.length c1 (iv l) ∧ Ow wr w3.heap.size 3 1 B1 m.length d1 (iv m) ∧ Apart A1 B1 ∧ Below w3.heap.size w3 wr) (fun _ _ iv' _ => L - (intOf iv').toNat)
  case atStart => exact ⟨0, none, none, 0, 0, [], [], Nat.zero_le _, rfl, rfl, rfl, Lib.hid rfl, Lib.hid rfl, Ow.nil _ _ _ _, Ow.nil _ _ _ _, Apart.none_left _, Below.refl _ _⟩
  case round =>
    obtain ⟨k, A1, B1, c1, d1, l, m, hk, rfl, rfl, rfl, HL1, HM1, hO1, hO2, hap, hB⟩ := hrel
    by_cases hlt : k < L
    · obtain ⟨ap, hlp, rfl, hcc0⟩ := hP3.int hlt
      obtain ⟨ac, hlc, rfl, hcp⟩ := (hC3'.below hB).int hlt
      obtain ⟨x, hx⟩ : ∃ x, P[k]? = some x := ⟨_, List.getElem?_eq_getElem (by rw [HLP.out]; exact hlt)⟩
      obtain ⟨y, hy⟩ : ∃ y, C[k]? = some y := ⟨_, List.getElem?_eq_getElem (by rw [HLC.out]; exact hlt)⟩
      rw [nvg P k x hx hlp] at hcc0
      rw [nvg C k y hy hlc] at hcp
      have HCC := Lib.hid (fun W (hW : Below w3.heap.size w3 W) => (hW.cell (World.block_lt_of_cell? _ _ hcc0)).trans hcc0)
      have hcc := HCC.out wr hB
      have hyI := HCI.out y (List.mem_of_getElem? hy)
      have hBw := hB13.trans (hB.mono hB13.size)
      have HX := Lib.hid hx; have HY := Lib.hid hy
      have hll : l.length ≤ k := by rw [HL1.out]; exact selN_len _ _ _ _
      have hml : m.length ≤ k := by rw [HM1.out]; exact selN_len _ _ _ _
      have hcall := HRES.out y wr (h.below hBw) (hT.below' hBw) hyI
      rw [HR.out] at hcall
      have HCALL := Lib.hid (show Calls Tryd.prog 72 #[.slice A n c, .int .i64 (y : Int), .slice none 0 0] wr (WPost wr (resN t y)) from hcall)
      clear hx hy hcall hyI hcc0
      go_wp2_with fail
      refine HCALL.out.mono ?_; rintro e w5 ⟨RA, rd, rfl, hO5, hB5⟩
      have hB35 := hB.trans (hB5.mono hB.size)
      have hBw5 := hBw.trans (hB5.mono hBw.size)
      have hO15 := hO1.below hB5
      have hO25 := hO2.below hB5
      have hcc5 := HCC.out w5 hB35
      obtain ⟨rl, hrl⟩ : ∃ rl, (resN t y).length = rl := ⟨_, rfl⟩
      have HRL := Lib.hid hrl
      rw [hrl]
      clear hO5 hO1 hO2 hrl hcp hcc hB5
      by_cases h0 : rl = 0
      · have t1 : decide ((0 : Int) < (rl : Int)) = false := decide_eq_false (by omega)
        have t1' : decide (0 < rl) = false := decide_eq_false (by omega)
        have HL2 : Hid (l = selN t P C (k + 1)) := Lib.hid (by rw [selN_no HY.out (by rw [HRL.out]; exact h0)]; exact HL1.out)
        have HM2 : Hid (m = selN t C C (k + 1)) := Lib.hid (by rw [selN_no HY.out (by rw [HRL.out]; exact h0)]; exact HM1.out)
        clear HL1 HM1 h0
        go_wp2_with fail
        go_roundw
        case rel => exact ⟨k + 1, A1, B1, c1, d1, l, m, by omega, by go_num, rfl, rfl, HL2, HM2, hO15, hO25, hap, hB35⟩
        case measure => simp [intOf]; omega
      · have t1 : decide ((0 : Int) < (rl : Int)) = true := decide_eq_true (by omega)
        have t1' : decide (0 < rl) = true := decide_eq_true (by omega)
        have t1'' : 0 < rl := by omega
        have HL2 : Hid (l ++ [(x : Int)] = selN t P C (k + 1)) := Lib.hid (by rw [selN_yes HX.out HY.out (by rw [HRL.out]; exact h0), HL1.out])
        have HM2 : Hid (m ++ [(y : Int)] = selN t C C (k + 1)) := Lib.hid (by rw [selN_yes HY.out HY.out (by rw [HRL.out]; exact h0), HM1.out])
        clear HL1 HM1 h0
        have hS35 := hB35.size
        go_wp2_with (first
          | (at_builtin; refine wpList_two (o := ⟨some 56, _, _, _, _, _⟩) (u := .int .i64 (x : Int)) E23 rfl rfl rfl (hO15.alloc _) (hO25.alloc _) hap rfl (by simp) (by simp [Value.oneCell']) (by unfold maxLen; omega) (by omega) (by simp; omega) ?_; intro A4 c4 w6 hO16 hO26 hap6 hG6 hB6; have hb6 := (hB35.alloc hB35.size _).trans hB6; have hcc6 := HCC.out w6 hb6; have hS6 := hb6.size; clear hO15 hO25 hap hG6 hB6)
          | (at_builtin; refine wpList_two (o := ⟨some 60, _, _, _, _, _⟩) (u := .int .i64 (y : Int)) E23 rfl rfl rfl (hO26.alloc _) (hO16.alloc _) hap6.symm rfl (by simp) (by simp [Value.oneCell']) (by unfold maxLen; omega) (by omega) (by simp; omega) ?_; intro A5 c5 w7 hO27 hO17 hap7 hG7 hB7; have hb7 := (hb6.alloc hb6.size _).trans hB7; clear hO26 hO16 hap6 hG7 hB7 hb6))
        go_roundw
        case rel => exact ⟨k + 1, A4, A5, c4, c5, l ++ [(x : Int)], m ++ [(y : Int)], by omega, by go_num, by rw [List.length_append]; rfl, by rw [List.length_append]; rfl, HL2, HM2, by rw [List.length_append, iv_snoc]; exact hO17, by rw [List.length_append, iv_snoc]; exact hO27, hap7.symm, hb7⟩
        case measure => simp [intOf]; omega
    · obtain rfl : k = L := by omega
      have hBf := hB13.trans (hB.mono hB13.size)
      have hs1 := hO1.sl
      have hs2 := hO2.sl
      clear hO1 hO2 hap
      go_wp2_with fail
      go_ret3
      exact ⟨A1, c1, B1, d1, by rw [← HL1.out, ← HM1.out]; rfl, by rw [← HL1.out]; exact hs1, by rw [← HM1.out]; exact hs2, hBf⟩
end Go.Proofs.YtieeinppoiihpaaDoor
