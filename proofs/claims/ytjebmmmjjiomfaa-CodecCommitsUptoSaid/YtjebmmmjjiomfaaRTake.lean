/- The walks of the reference's TakeInt and TakeBytes. -/
import Derived.Test.YtjebmmmjjiomfaaTakeB
import Derived.Test.YtjebmmmjjiomfaaRefWide
namespace Go.Proofs.Ytjebmmmjjiomfaa
open Go.RowKit

def foldB (x : Nat) (l : List UInt8) : Nat := l.foldl (fun a b => a * 256 + b.toNat) x
theorem foldB_snoc (x : Nat) (l : List UInt8) (b : UInt8) : foldB x (l ++ [b]) = foldB x l * 256 + b.toNat := by simp [foldB]
theorem foldB_add (l : List UInt8) : ∀ x y : Nat, foldB (y + x) l = y * 256 ^ l.length + foldB x l := by
  unfold foldB
  induction l with
  | nil => intro x y; simp
  | cons b l ih =>
    intro x y
    rw [List.foldl_cons, List.foldl_cons, List.length_cons, show (y + x) * 256 + b.toNat = y * 256 + (x * 256 + b.toNat) by omega, ih, Nat.pow_succ, Nat.mul_assoc, Nat.mul_comm 256]
theorem foldB_lt (l : List UInt8) : ∀ x k : Nat, x < k → foldB x l < k * 256 ^ l.length := by
  unfold foldB
  induction l with
  | nil => intro x k h; simpa using h
  | cons b l ih =>
    intro x k h
    rw [List.foldl_cons, List.length_cons, Nat.pow_succ, Nat.mul_comm (256 ^ _), ← Nat.mul_assoc]
    exact ih _ _ (by have := b.toNat_lt; omega)
theorem unL_cons (b : UInt8) (l : List UInt8) : unL (b :: l) = foldB b.toNat l := by simp [unL, foldB]
theorem unL_mod (b : UInt8) (l : List UInt8) (e m : Nat) (h : b.toNat / 64 = e) (hm : 64 * 256 ^ l.length = m) : unL (b :: l) % m = foldB (b.toNat % 64) l := by
  have h1 : b.toNat = 64 * e + b.toNat % 64 := by omega
  rw [unL_cons, h1, foldB_add, show 64 * e * 256 ^ l.length = e * m by rw [← hm, Nat.mul_comm 64 e, Nat.mul_assoc], show (64 * e + b.toNat % 64) % 64 = b.toNat % 64 by omega]
  rw [Nat.mul_comm, Nat.mul_add_mod]
  exact Nat.mod_eq_of_lt (by rw [← hm]; exact foldB_lt l _ _ (by omega))
set_option maxRecDepth 100000 in
set_option maxHeartbeats 4000000 in
theorem rtakeInt_any (A : Option Addr) (n c : Nat) (l : List UInt8) (w : World) (h : Sl w A n c (bv l)) :
    Calls Try.prog 107 #[.slice A n c] w fun e w' => e = .returned (.tuple #[.int .i64 ((takeI l).1 : Nat), .int .i64 ((takeI l).2.1 : Nat), .int .i64 ((takeI l).2.2 : Nat)]) ∧ Below w.heap.size w w' := by
  have htop := h.top; have hcap := h.cap; unfold maxLen at htop
  have Hl := Lib.hid (show l.length = n by have := h.len; rwa [bv_length] at this)
  rcases l with _ | ⟨b, r⟩
  · obtain rfl : n = 0 := by have := Hl.out; simpa using this.symm
    go_enter Try.func107, Try.ntmps107
    go_wp2_with fail
    go_ret3
    exact ⟨rfl, Below.refl _ _⟩
  · have hb := b.toNat_lt
    have hn1 : 1 ≤ n := by have := Hl.out; simp at this; omega
    have hrl : r.length = n - 1 := by have := Hl.out; simp at this; omega
    obtain ⟨ad, hl, rfl, hc⟩ := h.byte (k := 0) (by omega)
    have hc0 : w.cell? ad = some (.int .u8 (b.toNat : Int)) := hc
    have p0 : (n == 0) = false := by simp; omega
    have p1 : ((n : Int) == 0) = false := by simp; omega
    have p2 : 0 < (n : Int) := by omega
    by_cases h3 : b.toNat / 64 = 3
    · have q : ((b.toNat : Int)) / 64 = 3 := by omega
      have HT := Lib.hid (show takeI (b :: r) = (0, 0, 11) by unfold takeI; dsimp only; rw [if_pos h3])
      clear h3
      go_enter Try.func107, Try.ntmps107
      go_wp2_with fail
      go_ret3
      rw [HT.out]; exact ⟨rfl, Below.refl _ _⟩
    · have hk : b.toNat / 64 = 0 ∨ b.toNat / 64 = 1 ∨ b.toNat / 64 = 2 := by omega
      clear h3
      rcases hk with hk | hk | hk
      · have q : ((b.toNat : Int)) / 64 = 0 := by omega
        have hnk : 1 ≤ n := by omega
        have HT := Lib.hid (show takeI (b :: r) = if sz (foldB (b.toNat % 64) (r.take 0)) ≠ 0 then (0, 0, 11) else (foldB (b.toNat % 64) (r.take 0), 1, 0) by
          have e1 : (b :: r).take 1 = b :: r.take 0 := rfl
          have e2 := unL_mod b (r.take 0) 0 64 hk (by rw [List.length_take, Nat.min_eq_left (by omega)])
          unfold takeI; dsimp only; rw [if_neg (by omega), hk, if_neg (by rw [Hl.out]; omega)]
          show (if sz (unL ((b :: r).take 1) % 64) ≠ 0 then _ else (unL ((b :: r).take 1) % 64, 1, 0)) = _
          rw [e1, e2])
        have hv : foldB (b.toNat % 64) (r.take 0) < 1073741824 := by
          have := foldB_lt (r.take 0) (b.toNat % 64) 64 (by omega)
          rw [List.length_take, Nat.min_eq_left (by omega)] at this
          have e9 : 64 * 256 ^ 0 ≤ 1073741824 := by decide
          omega
        have hcell : ∀ (j : Nat) (x : UInt8), j < 0 → r[j]? = some x → w.cell? ⟨ad.block, ad.off + 1 + j, none⟩ = some (.int .u8 (x.toNat : Int)) := fun j x hj hx => by
          obtain ⟨ad2, l2, e2, e3⟩ := h.byte (k := j + 1) (by omega)
          injection e2 with e2
          subst e2
          have e4 : ad.add (j + 1) = ⟨ad.block, ad.off + 1 + j, none⟩ := by unfold Addr.add; simp; omega
          rw [e4] at e3
          rw [e3]
          have e5 : r[j] = x := (List.getElem?_eq_some_iff.1 hx).2
          simp [e5]
        have HV := Lib.hid hv; have HCL := Lib.hid hcell; have HRL := Lib.hid hrl
        have hni : (1 : Int) ≤ (n : Int) := by omega
        have hc2 : 1 ≤ c := by omega
        clear hk hv hcell
        go_enter Try.func107, Try.ntmps107
        go_wp2_with fail
        all_goals
          go_loopw [6, 37] (fun v i wr => ∃ j : Nat, j ≤ 0 ∧ i = .int .i64 (j : Int) ∧ v = .int .i64 (foldB (b.toNat % 64) (r.take j) : Nat) ∧ wr = w) (fun _ i _ => 0 - (intOf i).toNat)
          case atStart => exact ⟨0, Nat.zero_le _, rfl, by show _ = Value.int .i64 ((b.toNat % 64 : Nat) : Int); simp, rfl⟩
          case round =>
            obtain ⟨j, hj, rfl, rfl, rfl⟩ := hrel
            by_cases hlt : j < 0
            · exact absurd hlt (Nat.not_lt_zero _)
            · obtain rfl : j = 0 := by omega
              have HI := Lib.hid (rint_ok (foldB (b.toNat % 64) (r.take 0)) wr HV.out)
              obtain ⟨y, hy⟩ : ∃ y, foldB (b.toNat % 64) (r.take 0) = y := ⟨_, rfl⟩
              rw [hy] at HI HT ⊢
              rw [intL_length] at HI
              have hzl := sz_le y
              obtain ⟨z, hz⟩ : ∃ z, sz y = z := ⟨_, rfl⟩
              rw [hz] at HI HT hzl
              clear hy hz
              by_cases hzk : z = 0
              · have HT2 := Lib.hid (show takeI (b :: r) = (y, 1, 0) by rw [HT.out, if_neg (by simp [hzk])])
                rw [hzk] at HI
                clear hzk HT
                go_wp2_with fail
                refine HI.out.mono ?_; rintro e w' ⟨A2, c2, rfl, hO2, hB2⟩
                go_wp2_with fail
                go_ret3
                rw [HT2.out]; exact ⟨rfl, hB2⟩
              · have HT2 := Lib.hid (show takeI (b :: r) = (0, 0, 11) by rw [HT.out, if_pos hzk])
                obtain ⟨u, hu⟩ : ∃ u, 2 ^ z = u := ⟨_, rfl⟩
                have hz3 : z = 0 ∨ z = 1 ∨ z = 2 := by omega
                have hne : u ≠ 1 := by rcases hz3 with h | h | h <;> rw [h] at hu hzk <;> simp at hu hzk <;> omega
                have t1 : ((u : Int) != 1) = true := by rw [bne_iff_ne]; omega
                rw [hu] at HI
                clear hzk HT hu hz3 hne
                go_wp2_with fail
                refine HI.out.mono ?_; rintro e w' ⟨A2, c2, rfl, hO2, hB2⟩
                go_wp2_with fail
                go_ret3
                rw [HT2.out]; exact ⟨rfl, hB2⟩
      · have q : ((b.toNat : Int)) / 64 = 1 := by omega
        by_cases hs : n < 2
        · have HT := Lib.hid (show takeI (b :: r) = (0, 0, 10) by unfold takeI; dsimp only; rw [if_neg (by omega), hk, if_pos (by rw [Hl.out]; omega)])
          have hsi : (n : Int) < 2 := by omega
          clear hk
          go_enter Try.func107, Try.ntmps107
          go_wp2_with fail
          go_ret3
          rw [HT.out]; exact ⟨rfl, Below.refl _ _⟩
        · have hnk : 2 ≤ n := by omega
          have HT := Lib.hid (show takeI (b :: r) = if sz (foldB (b.toNat % 64) (r.take 1)) ≠ 1 then (0, 0, 11) else (foldB (b.toNat % 64) (r.take 1), 2, 0) by
            have e1 : (b :: r).take 2 = b :: r.take 1 := rfl
            have e2 := unL_mod b (r.take 1) 1 16384 hk (by rw [List.length_take, Nat.min_eq_left (by omega)])
            unfold takeI; dsimp only; rw [if_neg (by omega), hk, if_neg (by rw [Hl.out]; omega)]
            show (if sz (unL ((b :: r).take 2) % 16384) ≠ 1 then _ else (unL ((b :: r).take 2) % 16384, 2, 0)) = _
            rw [e1, e2])
          have hv : foldB (b.toNat % 64) (r.take 1) < 1073741824 := by
            have := foldB_lt (r.take 1) (b.toNat % 64) 64 (by omega)
            rw [List.length_take, Nat.min_eq_left (by omega)] at this
            have e9 : 64 * 256 ^ 1 ≤ 1073741824 := by decide
            omega
          have hcell : ∀ (j : Nat) (x : UInt8), j < 1 → r[j]? = some x → w.cell? ⟨ad.block, ad.off + 1 + j, none⟩ = some (.int .u8 (x.toNat : Int)) := fun j x hj hx => by
            obtain ⟨ad2, l2, e2, e3⟩ := h.byte (k := j + 1) (by omega)
            injection e2 with e2
            subst e2
            have e4 : ad.add (j + 1) = ⟨ad.block, ad.off + 1 + j, none⟩ := by unfold Addr.add; simp; omega
            rw [e4] at e3
            rw [e3]
            have e5 : r[j] = x := (List.getElem?_eq_some_iff.1 hx).2
            simp [e5]
          have HV := Lib.hid hv; have HCL := Lib.hid hcell; have HRL := Lib.hid hrl
          have hni : (2 : Int) ≤ (n : Int) := by omega
          have hc1 : ¬ c = 1 := by omega
          clear hk hv hcell
          go_enter Try.func107, Try.ntmps107
          go_wp2_with fail
          all_goals
            go_loopw [6, 37] (fun v i wr => ∃ j : Nat, j ≤ 1 ∧ i = .int .i64 (j : Int) ∧ v = .int .i64 (foldB (b.toNat % 64) (r.take j) : Nat) ∧ wr = w) (fun _ i _ => 1 - (intOf i).toNat)
            case atStart => exact ⟨0, Nat.zero_le _, rfl, by show _ = Value.int .i64 ((b.toNat % 64 : Nat) : Int); simp, rfl⟩
            case round =>
              obtain ⟨j, hj, rfl, rfl, rfl⟩ := hrel
              by_cases hlt : j < 1
              · obtain ⟨x, hx⟩ : ∃ x, r[j]? = some x := ⟨_, List.getElem?_eq_getElem (by have := HRL.out; omega)⟩
                have hcx := HCL.out j x hlt hx
                have HS : Hid (foldB (b.toNat % 64) (r.take (j + 1)) = foldB (b.toNat % 64) (r.take j) * 256 + x.toNat) := Lib.hid (by rw [List.take_add_one, hx]; exact foldB_snoc _ _ _)
                have hbd : foldB (b.toNat % 64) (r.take j) < 4194304 := by
                  have h1 := foldB_lt (r.take j) (b.toNat % 64) 64 (by omega)
                  have h2 : (r.take j).length ≤ 2 := by rw [List.length_take]; omega
                  have h3 : 256 ^ (r.take j).length ≤ 65536 := Nat.pow_le_pow_right (by omega) h2
                  have h4 : 64 * 256 ^ (r.take j).length ≤ 64 * 65536 := Nat.mul_le_mul_left 64 h3
                  omega
                have hxb := x.toNat_lt
                have i1 : (j : Int) < 1 := by omega
                obtain ⟨y, hy⟩ : ∃ y, foldB (b.toNat % 64) (r.take j) = y := ⟨_, rfl⟩
                rw [hy] at HS hbd ⊢
                clear hx hy
                go_wp2_with fail
                go_roundw
                case rel => exact ⟨j + 1, by omega, by go_num, by rw [HS.out]; go_num, trivial⟩
                case measure => simp [intOf] <;> omega
              · obtain rfl : j = 1 := by omega
                have HI := Lib.hid (rint_ok (foldB (b.toNat % 64) (r.take 1)) wr HV.out)
                obtain ⟨y, hy⟩ : ∃ y, foldB (b.toNat % 64) (r.take 1) = y := ⟨_, rfl⟩
                rw [hy] at HI HT ⊢
                rw [intL_length] at HI
                have hzl := sz_le y
                obtain ⟨z, hz⟩ : ∃ z, sz y = z := ⟨_, rfl⟩
                rw [hz] at HI HT hzl
                clear hy hz
                by_cases hzk : z = 1
                · have HT2 := Lib.hid (show takeI (b :: r) = (y, 2, 0) by rw [HT.out, if_neg (by simp [hzk])])
                  rw [hzk] at HI
                  clear hzk HT
                  go_wp2_with fail
                  refine HI.out.mono ?_; rintro e w' ⟨A2, c2, rfl, hO2, hB2⟩
                  go_wp2_with fail
                  go_ret3
                  rw [HT2.out]; exact ⟨rfl, hB2⟩
                · have HT2 := Lib.hid (show takeI (b :: r) = (0, 0, 11) by rw [HT.out, if_pos hzk])
                  obtain ⟨u, hu⟩ : ∃ u, 2 ^ z = u := ⟨_, rfl⟩
                  have hz3 : z = 0 ∨ z = 1 ∨ z = 2 := by omega
                  have hne : u ≠ 2 := by rcases hz3 with h | h | h <;> rw [h] at hu hzk <;> simp at hu hzk <;> omega
                  have t1 : ((u : Int) != 2) = true := by rw [bne_iff_ne]; omega
                  rw [hu] at HI
                  clear hzk HT hu hz3 hne
                  go_wp2_with fail
                  refine HI.out.mono ?_; rintro e w' ⟨A2, c2, rfl, hO2, hB2⟩
                  go_wp2_with fail
                  go_ret3
                  rw [HT2.out]; exact ⟨rfl, hB2⟩
      · have q : ((b.toNat : Int)) / 64 = 2 := by omega
        by_cases hs : n < 4
        · have HT := Lib.hid (show takeI (b :: r) = (0, 0, 10) by unfold takeI; dsimp only; rw [if_neg (by omega), hk, if_pos (by rw [Hl.out]; omega)])
          have hsi : (n : Int) < 4 := by omega
          clear hk
          go_enter Try.func107, Try.ntmps107
          go_wp2_with fail
          go_ret3
          rw [HT.out]; exact ⟨rfl, Below.refl _ _⟩
        · have hnk : 4 ≤ n := by omega
          have HT := Lib.hid (show takeI (b :: r) = if sz (foldB (b.toNat % 64) (r.take 3)) ≠ 2 then (0, 0, 11) else (foldB (b.toNat % 64) (r.take 3), 4, 0) by
            have e1 : (b :: r).take 4 = b :: r.take 3 := rfl
            have e2 := unL_mod b (r.take 3) 2 1073741824 hk (by rw [List.length_take, Nat.min_eq_left (by omega)])
            unfold takeI; dsimp only; rw [if_neg (by omega), hk, if_neg (by rw [Hl.out]; omega)]
            show (if sz (unL ((b :: r).take 4) % 1073741824) ≠ 2 then _ else (unL ((b :: r).take 4) % 1073741824, 4, 0)) = _
            rw [e1, e2])
          have hv : foldB (b.toNat % 64) (r.take 3) < 1073741824 := by
            have := foldB_lt (r.take 3) (b.toNat % 64) 64 (by omega)
            rw [List.length_take, Nat.min_eq_left (by omega)] at this
            have e9 : 64 * 256 ^ 3 ≤ 1073741824 := by decide
            omega
          have hcell : ∀ (j : Nat) (x : UInt8), j < 3 → r[j]? = some x → w.cell? ⟨ad.block, ad.off + 1 + j, none⟩ = some (.int .u8 (x.toNat : Int)) := fun j x hj hx => by
            obtain ⟨ad2, l2, e2, e3⟩ := h.byte (k := j + 1) (by omega)
            injection e2 with e2
            subst e2
            have e4 : ad.add (j + 1) = ⟨ad.block, ad.off + 1 + j, none⟩ := by unfold Addr.add; simp; omega
            rw [e4] at e3
            rw [e3]
            have e5 : r[j] = x := (List.getElem?_eq_some_iff.1 hx).2
            simp [e5]
          have HV := Lib.hid hv; have HCL := Lib.hid hcell; have HRL := Lib.hid hrl
          have hni : (4 : Int) ≤ (n : Int) := by omega
          have hc1 : ¬ c = 1 := by omega
          clear hk hv hcell
          go_enter Try.func107, Try.ntmps107
          go_wp2_with fail
          all_goals
            go_loopw [6, 37] (fun v i wr => ∃ j : Nat, j ≤ 3 ∧ i = .int .i64 (j : Int) ∧ v = .int .i64 (foldB (b.toNat % 64) (r.take j) : Nat) ∧ wr = w) (fun _ i _ => 3 - (intOf i).toNat)
            case atStart => exact ⟨0, Nat.zero_le _, rfl, by show _ = Value.int .i64 ((b.toNat % 64 : Nat) : Int); simp, rfl⟩
            case round =>
              obtain ⟨j, hj, rfl, rfl, rfl⟩ := hrel
              by_cases hlt : j < 3
              · obtain ⟨x, hx⟩ : ∃ x, r[j]? = some x := ⟨_, List.getElem?_eq_getElem (by have := HRL.out; omega)⟩
                have hcx := HCL.out j x hlt hx
                have HS : Hid (foldB (b.toNat % 64) (r.take (j + 1)) = foldB (b.toNat % 64) (r.take j) * 256 + x.toNat) := Lib.hid (by rw [List.take_add_one, hx]; exact foldB_snoc _ _ _)
                have hbd : foldB (b.toNat % 64) (r.take j) < 4194304 := by
                  have h1 := foldB_lt (r.take j) (b.toNat % 64) 64 (by omega)
                  have h2 : (r.take j).length ≤ 2 := by rw [List.length_take]; omega
                  have h3 : 256 ^ (r.take j).length ≤ 65536 := Nat.pow_le_pow_right (by omega) h2
                  have h4 : 64 * 256 ^ (r.take j).length ≤ 64 * 65536 := Nat.mul_le_mul_left 64 h3
                  omega
                have hxb := x.toNat_lt
                have i1 : (j : Int) < 3 := by omega
                obtain ⟨y, hy⟩ : ∃ y, foldB (b.toNat % 64) (r.take j) = y := ⟨_, rfl⟩
                rw [hy] at HS hbd ⊢
                clear hx hy
                go_wp2_with fail
                go_roundw
                case rel => exact ⟨j + 1, by omega, by go_num, by rw [HS.out]; go_num, trivial⟩
                case measure => simp [intOf] <;> omega
              · obtain rfl : j = 3 := by omega
                have HI := Lib.hid (rint_ok (foldB (b.toNat % 64) (r.take 3)) wr HV.out)
                obtain ⟨y, hy⟩ : ∃ y, foldB (b.toNat % 64) (r.take 3) = y := ⟨_, rfl⟩
                rw [hy] at HI HT ⊢
                rw [intL_length] at HI
                have hzl := sz_le y
                obtain ⟨z, hz⟩ : ∃ z, sz y = z := ⟨_, rfl⟩
                rw [hz] at HI HT hzl
                clear hy hz
                by_cases hzk : z = 2
                · have HT2 := Lib.hid (show takeI (b :: r) = (y, 4, 0) by rw [HT.out, if_neg (by simp [hzk])])
                  rw [hzk] at HI
                  clear hzk HT
                  go_wp2_with fail
                  refine HI.out.mono ?_; rintro e w' ⟨A2, c2, rfl, hO2, hB2⟩
                  go_wp2_with fail
                  go_ret3
                  rw [HT2.out]; exact ⟨rfl, hB2⟩
                · have HT2 := Lib.hid (show takeI (b :: r) = (0, 0, 11) by rw [HT.out, if_pos hzk])
                  obtain ⟨u, hu⟩ : ∃ u, 2 ^ z = u := ⟨_, rfl⟩
                  have hz3 : z = 0 ∨ z = 1 ∨ z = 2 := by omega
                  have hne : u ≠ 4 := by rcases hz3 with h | h | h <;> rw [h] at hu hzk <;> simp at hu hzk <;> omega
                  have t1 : ((u : Int) != 4) = true := by rw [bne_iff_ne]; omega
                  rw [hu] at HI
                  clear hzk HT hu hz3 hne
                  go_wp2_with fail
                  refine HI.out.mono ?_; rintro e w' ⟨A2, c2, rfl, hO2, hB2⟩
                  go_wp2_with fail
                  go_ret3
                  rw [HT2.out]; exact ⟨rfl, hB2⟩
set_option maxRecDepth 100000 in
set_option maxHeartbeats 1000000 in
theorem rtakeB_any (A : Option Addr) (n c : Nat) (l : List UInt8) (w : World) (h : Sl w A n c (bv l)) (hn : Hid (n ≤ 1073741824)) :
    Calls Try.prog 114 #[.slice A n c] w (TB l w) := by
  have hl := h.len; rw [bv_length] at hl
  have hI := rtakeInt_any A n c l w h
  obtain ⟨m, hm⟩ : ∃ m, (takeI l).1 = m := ⟨_, rfl⟩
  obtain ⟨k, hk⟩ : ∃ k, (takeI l).2.1 = k := ⟨_, rfl⟩
  obtain ⟨x, hx⟩ : ∃ x, (takeI l).2.2 = x := ⟨_, rfl⟩
  rw [hm, hk, hx] at hI
  have hT : takeB l = if x ≠ 0 then ([], 0, x) else if n - k < m then ([], 0, 10) else ((l.drop k).take m, k + m, 0) := by unfold takeB; rw [hm, hk, hx, hl]
  have HI := Lib.hid hI; have HT := Lib.hid hT; have HL := Lib.hid hl; clear hI hT hl
  by_cases hx0 : x = 0
  · subst hx0
    have hti := int_take l m k (by rw [← hm, ← hk, ← hx])
    have hk1 := hti.2.1
    have hk2 : k ≤ n := by have := hti.2.2.1; rw [HL.out] at this; exact this
    have hn1 : (n : Int) ≤ 1073741824 := by have := hn.out; omega
    clear hti hm hk hx
    by_cases hs : n - k < m
    · have i1 : (n : Int) - k < m := by omega
      have HT2 := Lib.hid (show takeB l = ([], 0, 10) by rw [HT.out, if_neg (by omega), if_pos hs])
      clear hs
      go_enter Try.func114, Try.ntmps114
      go_wp2_with (go_at_call 107; refine HI.out.mono ?_; rintro e w' ⟨rfl, hB0⟩)
      go_ret3
      exact ⟨none, 0, by rw [HT2.out]; rfl, by rw [HT2.out]; exact Ow.nil _ _ _ _, hB0⟩
    · have i1 : (m : Int) ≤ (n : Int) - k := by omega
      have HT2 := Lib.hid (show takeB l = ((l.drop k).take m, k + m, 0) by rw [HT.out, if_neg (by omega), if_neg hs])
      clear hs
      have i2 : (k : Int) + m ≤ n := by omega
      have hc3 : n ≤ c := h.cap
      have hc4 : c ≤ maxLen := h.top
      obtain ⟨ad, hl0, rfl, hc0⟩ := h.byte (k := 0) (by omega)
      clear hc0 hl0
      have hsub := h.sub (lo := k) (hi := k + m) (by omega) (by omega)
      rw [Nat.add_sub_cancel_left, ← bv_take, ← bv_drop, List.drop_take, Nat.add_sub_cancel_left] at hsub
      have hmn : m ≤ n := by omega
      have hmx : m ≤ 1073741824 := by have := hn.out; omega
      have hlen : ((l.drop k).take m).length = m := by have := hsub.len; simpa using this
      have HLN := Lib.hid hlen
      have HS := Lib.hid hsub; clear hsub hmn hlen
      by_cases hce : c = k
      · subst hce
        have hst : Sl w (some ad) m 0 (bv ((l.drop c).take m)) := by
          have := HS.out
          simpa using this
        have hcm : c + m - c = m := by omega
        go_enter Try.func114, Try.ntmps114
        go_wp2_with (first
          | (go_at_call 107; refine HI.out.mono ?_; rintro e w1 ⟨rfl, hB0⟩; have hs1 := hst.below hB0)
          | (at_builtin; refine wpList_app0 (o := ⟨some 29, _, _, _, _, _⟩) w.heap.size E23 rfl rfl rfl rfl hs1.lies (by rw [bv_length, HLN.out, Nat.mul_one]; exact hcm.symm) (bv_one _) (by unfold maxLen; omega) (by omega) hB0.size ?_; intro A1 c1 w2 hO1 hG1 hB1))
        go_ret3
        rw [hcm] at hO1
        refine ⟨A1, c1, ?_, ?_, hB0.trans hB1⟩
        · rw [HT2.out]; dsimp only; rw [HLN.out]; rfl
        · rw [HT2.out]; dsimp only; rw [HLN.out]; exact hO1
      · have hst : Sl w (some (ad.add k)) m (c - k) (bv ((l.drop k).take m)) := by
          have := HS.out
          rwa [if_neg hce] at this
        have hcm : k + m - k = m := by omega
        go_enter Try.func114, Try.ntmps114
        go_wp2_with (first
          | (go_at_call 107; refine HI.out.mono ?_; rintro e w1 ⟨rfl, hB0⟩; have hs1 := hst.below hB0)
          | (at_builtin; refine wpList_app0 (o := ⟨some 29, _, _, _, _, _⟩) w.heap.size E23 rfl rfl rfl rfl hs1.lies (by rw [bv_length, HLN.out, Nat.mul_one]; exact hcm.symm) (bv_one _) (by unfold maxLen; omega) (by omega) hB0.size ?_; intro A1 c1 w2 hO1 hG1 hB1))
        go_ret3
        rw [hcm] at hO1
        refine ⟨A1, c1, ?_, ?_, hB0.trans hB1⟩
        · rw [HT2.out]; dsimp only; rw [HLN.out]; rfl
        · rw [HT2.out]; dsimp only; rw [HLN.out]; exact hO1
  · have HT2 := Lib.hid (show takeB l = ([], 0, x) by rw [HT.out, if_pos hx0])
    have t1 : (x != 0) = true := by simpa using hx0
    have t2 : ((x : Int) != 0) = true := by rw [bne_iff_ne]; omega
    go_enter Try.func114, Try.ntmps114
    go_wp2_with (go_at_call 107; refine HI.out.mono ?_; rintro e w' ⟨rfl, hB0⟩)
    go_ret3
    exact ⟨none, 0, by rw [HT2.out]; rfl, by rw [HT2.out]; exact Ow.nil _ _ _ _, hB0⟩
end Go.Proofs.Ytjebmmmjjiomfaa
