/- The walk of the reference's Wide. -/
import Derived.Test.YtjebmmmjjiomfaaRefInt
namespace Go.Proofs.Ytjebmmmjjiomfaa
open Go.RowKit

/-- the bytes when so many are laid, from behind -/
def wlI (n k i : Nat) : List UInt8 := (List.range k).map fun j => if k - i ≤ j then UInt8.ofNat (n / 2 ^ (8 * (k - 1 - j))) else 0
theorem wlI_len (n k i : Nat) : (wlI n k i).length = k := by simp [wlI]
theorem wlI_zero (n k : Nat) : bv (wlI n k 0) = List.replicate k (.int .u8 0) := by
  unfold wlI bv
  rw [List.map_map]
  apply List.ext_getElem
  · simp
  · intro j h1 h2
    have hj : j < k := by simpa using h1
    simp [show ¬ k ≤ j by omega]
theorem wlI_all (n k : Nat) : wlI n k k = wideL n k := by
  unfold wlI wideL
  refine List.map_congr_left fun j _ => ?_
  rw [if_pos (by omega)]
theorem wlI_set (n k i : Nat) (hi : i < k) : (bv (wlI n k i)).set (k - 1 - i) (.int .u8 ((n : Int) / 2 ^ (8 * i) % 256)) = bv (wlI n k (i + 1)) := by
  apply List.ext_getElem
  · simp [bv, wlI]
  · intro j h1 h2
    have hj : j < k := by simpa [bv, wlI] using h2
    rw [List.getElem_set]
    by_cases e : k - 1 - i = j
    · rw [if_pos e]
      subst e
      simp only [bv, wlI, List.getElem_map, List.getElem_range]
      rw [if_pos (by omega), ofNat_toNat, show k - 1 - (k - 1 - i) = i by omega]
      congr 1
    · rw [if_neg e]
      simp only [bv, wlI, List.getElem_map, List.getElem_range]
      by_cases q : k - i ≤ j
      · rw [if_pos q, if_pos (by omega)]
      · rw [if_neg q, if_neg (by omega)]
theorem pow_fits (k : Nat) (h : k < 8) : IntKind.u64.wrap ((2 : Int) ^ (8 * k)) = ((2 ^ (8 * k) : Nat) : Int) := by
  match k, h with
  | 0, _ | 1, _ | 2, _ | 3, _ | 4, _ | 5, _ | 6, _ | 7, _ => rfl
set_option maxRecDepth 100000 in
set_option maxHeartbeats 2000000 in
theorem rwide_ok (n k : Nat) (w : World) (h1 : 1 ≤ k) (h8 : k ≤ 8) (hlt : Hid (n < 2 ^ (8 * k))) :
    Calls Try.prog 25 #[.int .u64 (n : Int), .int .i64 (k : Int)] w fun e w' => ∃ A c, e = .returned (.tuple #[.slice A k c, .int .i64 0]) ∧ Ow w' w.heap.size 5 1 A k c (bv (wideL n k)) ∧ Below w.heap.size w w' := by
  have t1 : decide ((k : Int) < 1) = false := decide_eq_false (by omega)
  have t2 : decide ((8 : Int) < (k : Int)) = false := decide_eq_false (by omega)
  have key : ∀ b, decide ((k : Int) < 8) = b → (b = true → decide (IntKind.u64.wrap ((2 : Int) ^ (8 * k)) ≤ (n : Int)) = false) →
      Calls Try.prog 25 #[.int .u64 (n : Int), .int .i64 (k : Int)] w fun e w' => ∃ A c, e = .returned (.tuple #[.slice A k c, .int .i64 0]) ∧ Ow w' w.heap.size 5 1 A k c (bv (wideL n k)) ∧ Below w.heap.size w w' := by
    intro b t3 t4
    have HW := Lib.hid (wlI_all n k)
    have HS := Lib.hid (wlI_set n k)
    have HZ := Lib.hid (wlI_zero n k)
    have HLn := Lib.hid (wlI_len n k)
    cases b
    all_goals
      first | have t5 := t4 rfl | skip
      clear t4 hlt
      go_enter Try.func25, Try.ntmps25
      go_wp2_with (at_make; refine wpList_mk (o := ⟨some 27, _, _, _, _, _⟩) E23 rfl rfl rfl k rfl rfl rfl rfl w.heap.size (Nat.le_refl _) (by omega) (by unfold maxLen; omega) ?_; intro w1 hO1 hG1 hB1)
      rw [← HZ.out] at hO1
      clear hG1
      have hg1 := hO1.bit
      go_loopw [29] (fun i wr => ∃ j : Nat, j ≤ k ∧ i = .int .i64 (j : Int) ∧ Ow wr w.heap.size 5 1 (some ⟨w.heap.size, 0, none⟩) k k (bv (wlI n k j)) ∧ Below w.heap.size w wr) (fun i _ => k - (intOf i).toNat)
      case atStart => exact ⟨0, Nat.zero_le _, rfl, hO1, hB1⟩
      case round =>
        clear hO1 hB1
        obtain ⟨j, hj, rfl, hO, hB⟩ := hrel
        by_cases hlt : j < k
        · obtain ⟨u, hc⟩ : ∃ u, wr.cell? ⟨w.heap.size, k - 1 - j, none⟩ = some u := ⟨_, hO.cell (List.getElem?_eq_getElem (by rw [bv_length, HLn.out]; omega))⟩
          have hf := hO.frz (k - 1 - j)
          have hO2 := hO.set_ (k - 1 - j) (.int .u8 ((n : Int) / 2 ^ (8 * j) % 256))
          rw [HS.out j hlt] at hO2
          have hB2 := hB.setCell (p := ⟨w.heap.size, k - 1 - j, none⟩) (Nat.le_refl _) (.int .u8 ((n : Int) / 2 ^ (8 * j) % 256))
          have e1 : (k : Int) - 1 - (j : Int) = ((k - 1 - j : Nat) : Int) := by omega
          obtain ⟨p, hp⟩ : ∃ p, k - 1 - j = p := ⟨_, rfl⟩
          rw [hp] at hc hf hO2 hB2 e1
          have i1 : (p : Int) < (k : Int) := by omega
          clear hO hB hp
          go_wp2_with fail
          go_roundw
          case rel => exact ⟨j + 1, by omega, by go_num, hO2, hB2⟩
          case measure => simp [intOf]; omega
        · obtain rfl : j = k := by omega
          rw [HW.out] at hO
          go_wp2_with fail
          go_ret2
          exact ⟨_, _, rfl, hO, hB⟩
  refine key _ rfl fun hb => ?_
  have hk : k < 8 := by have := of_decide_eq_true hb; omega
  rw [pow_fits k hk]
  have := hlt.out
  exact decide_eq_false (by omega)
set_option maxRecDepth 100000 in
theorem rwide_no (n : Nat) (k : Int) (w : World) (h : k < 1 ∨ 8 < k ∨ (1 ≤ k ∧ k < 8 ∧ Hid (2 ^ (8 * k.toNat) ≤ n))) :
    Calls Try.prog 25 #[.int .u64 (n : Int), .int .i64 k] w fun e w' => e = .returned (.tuple #[.slice none 0 0, .int .i64 1]) ∧ w = w' := by
  by_cases h1 : k < 1
  · clear h
    go_enter Try.func25, Try.ntmps25
    go_wp2_with fail
    go_ret2
    exact ⟨rfl, rfl⟩
  · by_cases h8 : 8 < k
    · clear h
      have t1 : decide (k < 1) = false := decide_eq_false h1
      have t2 : decide (8 < k) = true := decide_eq_true h8
      go_enter Try.func25, Try.ntmps25
      go_wp2_with fail
      go_ret2
      exact ⟨rfl, rfl⟩
    · have h3 : k < 8 ∧ Hid (2 ^ (8 * k.toNat) ≤ n) := by
        rcases h with h | h | h
        · omega
        · omega
        · exact h.2
      obtain ⟨m, rfl⟩ : ∃ m : Nat, k = m := ⟨k.toNat, by omega⟩
      have t1 : decide ((m : Int) < 1) = false := decide_eq_false h1
      have t2 : decide ((8 : Int) < (m : Int)) = false := decide_eq_false h8
      have t3 : decide ((m : Int) < 8) = true := decide_eq_true h3.1
      have t4 : decide (IntKind.u64.wrap ((2 : Int) ^ (8 * m)) ≤ (n : Int)) = true := by
        rw [pow_fits m (by omega)]
        have := h3.2.out
        rw [Int.toNat_natCast] at this
        exact decide_eq_true (by omega)
      have i1 : (m : Int) ≤ 8 := by omega
      have i2 : (1 : Int) ≤ (m : Int) := by omega
      clear h h1 h8 h3
      go_enter Try.func25, Try.ntmps25
      go_wp2_with fail
      go_ret2
      exact ⟨rfl, rfl⟩
/-- ref.Bytes, where there are few -/
theorem rbytes_ok (A : Option Addr) (n c : Nat) (l : List UInt8) (w : World) (h : Sl w A n c (bv l)) (hn : Hid (n < 1073741824)) :
    Calls Try.prog 30 #[.slice A n c] w fun e w' => ∃ A' c', e = .returned (.tuple #[.slice A' (bytesL l).length c', .int .i64 0]) ∧ Ow w' w.heap.size 5 1 A' (bytesL l).length c' (bv (bytesL l)) ∧ Below w.heap.size w w' := by
  have hl := h.len; rw [bv_length] at hl
  have HI := Lib.hid (fun W => rint_ok n W hn.out)
  have HL := Lib.hid hl
  have HB : Hid (bytesL l = intL n ++ l) := Lib.hid (by unfold bytesL; rw [hl])
  have hi := intL_le n
  obtain ⟨I, hI⟩ : ∃ I, (intL n).length = I := ⟨_, rfl⟩
  rw [hI] at HI hi
  have HII := Lib.hid hI
  have HX : Hid ((bytesL l).length = I + n) := Lib.hid (by rw [HB.out, List.length_append, hI, hl])
  have hnn : (n : Int) < 1073741824 := by have := hn.out; omega
  clear hl hI hn
  go_enter Try.func30, Try.ntmps30
  go_wp2_with fail
  refine (HI.out w).mono ?_; rintro e w1 ⟨A1, c1, rfl, hO1, hB1⟩
  have h1 := h.below hB1
  have hs1 := hB1.size
  go_wp2_with (at_builtin; refine wpList_app (o := ⟨some 17, _, _, _, _, _⟩) E23 rfl rfl rfl hO1 rfl h1.lies (by rw [bv_length, HL.out, Nat.mul_one]) (bv_one _) (by unfold maxLen; omega) (by omega) hs1 ?_; intro A2 c2 w2 hO2 hG2 hB2)
  go_ret2
  rw [HX.out, HB.out, bv_append]
  exact ⟨A2, c2, rfl, hO2, hB1.trans hB2⟩
end Go.Proofs.Ytjebmmmjjiomfaa
