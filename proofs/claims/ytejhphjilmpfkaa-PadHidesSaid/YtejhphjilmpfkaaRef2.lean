/- The walk of the reference's Unpad. -/
import Derived.Test.YtejhphjilmpfkaaRef1
namespace Go.Proofs.Ytejhphjilmpfkaa
open Go.RowKit

set_option maxRecDepth 100000 in
set_option maxHeartbeats 2000000 in
theorem runpad_rel (A : Option Addr) (n c : Nat) (l : List UInt8) (w : World) (h : Sl w A n c (bv l)) :
    Calls Try.prog 12 #[.slice A n c] w (UnpadPost l w) := by
  have htop := h.top; have hcap := h.cap; unfold maxLen at htop
  have Hl := Lib.hid (show l.length = n by have := h.len; rwa [bv_length] at this)
  go_enter Try.func12, Try.ntmps12
  go_wp2_with fail
  go_loop [4] (fun v => ∃ k : Nat, k ≤ n ∧ v = .int .i64 (k : Int) ∧ Hid (∀ j (hj : j < l.length), k ≤ j → l[j] = 0)) (fun v => (intOf v).toNat)
  case atStart => exact ⟨n, Nat.le_refl _, rfl, fun j hj hk => absurd hj (by have := Hl.out; omega)⟩
  case round =>
    obtain ⟨k, hk, rfl, hz⟩ := hrel
    by_cases hk0 : k = 0
    · subst hk0
      go_wp2_with fail
      go_ret2
      exact ⟨Below.refl _ _, .inr ⟨fun j hj => hz.out j hj (Nat.zero_le _), rfl⟩⟩
    · obtain ⟨ad, hl, rfl, hc⟩ := h.byte (k := k - 1) (by omega)
      have e1 : (((k : Nat) : Int) - 1).toNat = k - 1 := by omega
      have p1 : 0 ≤ (k : Int) - 1 := by omega
      have p2 : (k : Int) - 1 < n := by omega
      have p3 : 0 < (k : Int) := by omega
      have p4 : (k == 0) = false := by simpa using hk0
      have p5 : ((k : Int) == 0) = false := by simp; omega
      obtain ⟨v, hv⟩ : ∃ v, l[k-1]'hl = v := ⟨_, rfl⟩
      rw [hv] at hc
      have Hv := Lib.hid hv; clear hv
      have hz2 : v = 0 → ∀ j (hj : j < l.length), k - 1 ≤ j → l[j] = 0 := fun h0 j hj hkj => by
        by_cases e : j = k - 1
        · subst e; rw [← h0]; exact Hv.out
        · exact hz.out j hj (by omega)
      have HZ2 := Lib.hid hz2; clear hz2
      by_cases hv0 : v = 0
      · have t1 : (((v.toNat : Int)) == 0) = true := by rw [hv0]; rfl
        go_wp2_with fail
        go_round
        case rel => exact ⟨k - 1, by omega, by rw [show ((k - 1 : Nat) : Int) = (k : Int) - 1 by omega], HZ2.out hv0⟩
        case measure => simp [intOf]; omega
      · have t1 : (((v.toNat : Int)) == 0) = false := by
          rw [beq_eq_false_iff_ne]; intro h; exact hv0 (UInt8.toNat_inj.1 (by rw [UInt8.toNat_zero]; omega))
        have HV0 := Lib.hid hv0; clear hv0
        have key : Hid (∀ j (hj : j < l.length), k - 1 < j → l[j] = 0) := fun j hj hkj => hz.out j hj (by omega)
        by_cases hv1 : v = 128
        · have t2 : (((v.toNat : Int)) != 128) = false := by rw [hv1]; rfl
          by_cases hb : k - 1 < 65536
          · obtain ⟨m, hm⟩ : ∃ m, bk (k - 1) = m := ⟨_, rfl⟩
            have Hm := Lib.hid hm; clear hm
            have hcall := fun W => rbucket_nat (k - 1) W hb
            rw [show ((k - 1 : Nat) : Int) = (k : Int) - 1 by omega, Hm.out] at hcall
            have HC := Lib.hid hcall; clear hcall
            by_cases hmn : m = n
            · subst hmn
              have hap := Lib.hid (h.pre (k := k - 1) (by omega))
              go_wp2_with (first
                | (go_at_call 14; refine (HC.out _).mono ?_; rintro e w' ⟨rfl, rfl⟩)
                | (at_builtin; refine wpList_app0 (o := ⟨some 45, _, _, _, _, _⟩) w.heap.size E22 rfl rfl rfl rfl hap.out.lies (by rw [hap.out.len, Nat.mul_one]) (fun u hu => bv_one l u (List.mem_of_mem_take hu)) (by unfold maxLen; omega) (by omega) (Nat.le_refl _) ?_; intro A1 c1 w1 hO1 hG1 hB1))
              go_ret2
              refine ⟨hB1, .inl ⟨k - 1, hl, key.out, by rw [Hv.out]; exact HV0.out, .inl ⟨⟨by rw [List.getElem?_eq_getElem hl, Hv.out, hv1], hb, by rw [Hm.out, Hl.out]⟩, A1, c1, rfl, by rw [bv_take]; exact hO1.sl⟩⟩⟩
            · have t3 : (m != n) = true := by rw [bne_iff_ne]; exact hmn
              have t4 : ((m : Int) != (n : Int)) = true := by rw [bne_iff_ne]; omega
              have HM := Lib.hid hmn; clear hmn
              go_wp2_with (go_at_call 14; refine (HC.out _).mono ?_; rintro e w' ⟨rfl, rfl⟩)
              go_ret2
              exact ⟨Below.refl _ _, .inl ⟨k - 1, hl, key.out, by rw [Hv.out]; exact HV0.out, .inr ⟨fun hg => HM.out (by have := hg.2.2; rw [Hm.out, Hl.out] at this; exact this), rfl⟩⟩⟩
          · have hcall := fun W => rbucket_big ((k : Int) - 1) W (by omega)
            have HC := Lib.hid hcall; have HB := Lib.hid hb; clear hcall hb
            have t4 : ((0 : Int) != (n : Int)) = true := by rw [bne_iff_ne]; omega
            have t5 : (0 != n) = true := by rw [bne_iff_ne]; omega
            go_wp2_with (go_at_call 14; refine (HC.out _).mono ?_; rintro e w' ⟨rfl, rfl⟩)
            go_ret2
            exact ⟨Below.refl _ _, .inl ⟨k - 1, hl, key.out, by rw [Hv.out]; exact HV0.out, .inr ⟨fun hg => by have := HB.out; exact absurd hg.2.1 (by omega), rfl⟩⟩⟩
        · have t2 : (((v.toNat : Int)) != 128) = true := by
            rw [bne_iff_ne]; intro h; exact hv1 (UInt8.toNat_inj.1 (by show v.toNat = 128; omega))
          have HV1 := Lib.hid hv1; clear hv1
          go_wp2_with fail
          go_ret2
          exact ⟨Below.refl _ _, .inl ⟨k - 1, hl, key.out, by rw [Hv.out]; exact HV0.out, .inr ⟨fun hg => HV1.out (by have := hg.1; rw [List.getElem?_eq_getElem hl, Hv.out] at this; exact Option.some.inj this), rfl⟩⟩⟩
end Go.Proofs.Ytejhphjilmpfkaa
