/- The walks of the reference's ints and vector, that write. -/
import Derived.Test.YtjebmmmjjiomfaaCTreeW
import Derived.Test.YtjebmmmjjiomfaaRefWide
namespace Go.Proofs.Ytjebmmmjjiomfaa
open Go.RowKit

/-- how the reference's writers end: bytes of their own, and whether they are so -/
def PEnd (o : Option (List UInt8)) (N : Nat) (w : World) (e : Ending) (w' : World) : Prop :=
  ∃ (b : List UInt8) (yes : Bool) (A : Option Addr) (c : Nat), e = .returned (.tuple #[.slice A b.length c, .bool yes]) ∧ Ow w' w.heap.size 5 1 A b.length c (bv b) ∧ b.length ≤ N ∧ o = (if yes then some b else none) ∧ Below w.heap.size w w'
set_option maxRecDepth 100000 in
set_option maxHeartbeats 1000000 in
theorem rwints_ok (A : Option Addr) (n c : Nat) (ns : List Int) (w : World) (h : Sl w A n c (iv ns)) (hb : Hid (n ≤ 1073741824)) :
    Calls Try.prog 106 #[.slice A n c] w (PEnd (nsI ns) (4 * n) w) := by
  have htop := h.top; have hcap := h.cap; unfold maxLen at htop
  have Hl := Lib.hid (show ns.length = n by have := h.len; rwa [iv_length] at this)
  rw [nsI_all]
  go_enter Try.func106, Try.ntmps106
  go_wp2_with fail
  go_loopw [4, 11] (fun out i wr => ∃ (k : Nat) (b : List UInt8) (B : Option Addr) (d : Nat), k ≤ n ∧ i = .int .i64 (k : Int) ∧ out = .slice B b.length d ∧ Hid (allB nI (ns.take k) = some b) ∧ Ow wr w.heap.size 5 1 B b.length d (bv b) ∧ Below w.heap.size w wr) (fun _ i _ => n - (intOf i).toNat)
  case atStart => exact ⟨0, [], none, 0, Nat.zero_le _, rfl, rfl, Lib.hid rfl, Ow.nil _ _ _ _, Below.refl _ _⟩
  case round =>
    obtain ⟨k, b, B, d, hk, rfl, rfl, HA, hO, hB⟩ := hrel
    have hbl : b.length ≤ 4 * k := by
      have := nsI_len (l := ns.take k) (by rw [nsI_all]; exact HA.out)
      simp at this; omega
    by_cases hlt : k < n
    · obtain ⟨ad, x, rfl, hx, hcx⟩ := (h.below hB).at_ hlt
      rw [iv_get] at hx
      obtain ⟨z, hz⟩ : ∃ z, ns[k]? = some z := ⟨_, List.getElem?_eq_getElem (by rw [Hl.out]; exact hlt)⟩
      rw [hz] at hx
      simp at hx
      subst hx
      have HZ := Lib.hid hz
      have i1 : (k : Int) < (n : Int) := by omega
      have hbn := hb.out
      clear hz
      by_cases hn : 0 ≤ z ∧ z ≤ 1073741823
      · obtain ⟨m, rfl⟩ : ∃ m : Nat, z = m := ⟨z.toNat, by omega⟩
        have HI := Lib.hid (rint_ok m wr (by omega))
        have hle := (intL_le m).2
        have HN : Hid (nI (m : Int) = some (intL m)) := Lib.hid (by rw [nI_yes hn]; simp)
        obtain ⟨y, hy⟩ : ∃ y, intL m = y := ⟨_, rfl⟩
        rw [hy] at HI HN hle
        clear hn hy
        go_wp2_with (first
          | (go_at_call 24; refine HI.out.mono ?_; rintro e w1 ⟨A2, c2, rfl, hO2, hB2⟩; have hO1 := hO.below hB2)
          | (at_builtin; refine wpList_app (o := ⟨some 24, _, _, _, _, _⟩) E23 rfl rfl rfl hO1 rfl hO2.lies (by rw [bv_length, Nat.mul_one]) (bv_one _) (by unfold maxLen; omega) (by omega) (by have := hB2.size; have := hB.size; omega) ?_; intro A3 c3 w3 hO3 hG3 hB3))
        go_roundw
        case rel =>
          have hT := (allB_take nI HZ.out).trans (by rw [HA.out, HN.out, seqB_yes])
          refine ⟨k + 1, b ++ y, A3, c3, by omega, by go_num, by rw [List.length_append], Lib.hid hT, ?_, (hB.trans (hB2.mono hB.size)).trans hB3⟩
          rw [List.length_append, bv_append]
          exact hO3
        case measure => simp [intOf]; omega
      · have HI := Lib.hid (rint_no z wr (by omega))
        have HN := Lib.hid (nI_no hn)
        clear hn
        go_wp2_with (first | (go_at_call 24; refine HI.out.mono ?_; rintro e w1 ⟨rfl, rfl⟩))
        go_ret2
        exact ⟨[], false, none, 0, rfl, Ow.nil _ _ _ _, Nat.zero_le _, allB_none nI HZ.out HN.out, hB⟩
    · obtain rfl : k = n := by omega
      have HT := Lib.hid (show ns.take k = ns by rw [← Hl.out, List.take_length])
      go_wp2_with fail
      go_ret2
      exact ⟨b, true, B, d, rfl, hO, hbl, by rw [HT.out] at HA; exact HA.out, hB⟩
/-- the reference's vector -/
theorem rwvec_ok (A : Option Addr) (c : Nat) (b : List UInt8) (yes : Bool) (w : World) (h : Sl w A b.length c (bv b)) (hb : Hid (b.length < 1073741824)) (o : Option (List UInt8)) (ho : Hid (o = if yes then some b else none)) :
    Calls Try.prog 101 #[.slice A b.length c, .bool yes] w (PEnd (o.bind vecB) (b.length + 4) w) := by
  cases yes
  · have HO : Hid (o = none) := ho
    go_enter Try.func101, Try.ntmps101
    go_wp2_with fail
    go_ret2
    exact ⟨[], false, none, 0, rfl, Ow.nil _ _ _ _, Nat.zero_le _, by rw [HO.out]; rfl, Below.refl _ _⟩
  · have HO : Hid (o = some b) := ho
    have HB := Lib.hid (rbytes_ok A b.length c b w h hb)
    have HV : Hid (vecB b = some (bytesL b)) := Lib.hid (if_pos hb.out)
    have HL := Lib.hid (vecB_len' HV.out)
    obtain ⟨y, hy⟩ : ∃ y, bytesL b = y := ⟨_, rfl⟩
    rw [hy] at HB HV HL
    clear hy
    go_enter Try.func101, Try.ntmps101
    go_wp2_with (go_at_call 30; refine HB.out.mono ?_; rintro e w1 ⟨A2, c2, rfl, hO2, hB2⟩)
    go_ret2
    exact ⟨y, true, A2, c2, rfl, hO2, HL.out, by rw [HO.out]; exact HV.out, hB2⟩
end Go.Proofs.Ytjebmmmjjiomfaa
