/- The walk of the law MathCopath. -/
import Derived.Test.YtieeinppoiihpaaDoorLive
import Derived.Test.YtieeinppoiihpaaDoorCop
namespace Go.Proofs.YtieeinppoiihpaaDoor
open Go.RowKit

theorem InsI.nat {x n : Int} (h : InsI x n) : ∃ a b : Nat, x = a ∧ n = b ∧ Ins a b :=
  ⟨x.toNat, n.toNat, by have := h.1; omega, by have := h.2.1; omega, h.2.2⟩
/-- the last of some numbers, -1 of none -/
def lastI (l : List Nat) : Int := match l.getLast? with | some x => (x : Int) | none => -1
theorem lastI_snoc (l : List Nat) (x : Nat) : lastI (l ++ [x]) = x := by simp [lastI]
theorem copE (i : Nat) (m : Nat) (W : World) (h : Ins (2 * i) m) (hT : Tab W) :
    Calls Tryd.prog 12 #[.int .i64 (2 * (i : Int)), .int .i64 (m : Int)] W fun e w' => ∃ A c, e = .returned (.tuple #[.slice A (copL (2 * i) m).length c, .int .i64 0]) ∧ Sl w' A (copL (2 * i) m).length c (iv (nv (copL (2 * i) m))) ∧ Below W.heap.size W w' := by
  have := cop_ok (2 * i) m W h hT
  rw [show (((2 * i : Nat)) : Int) = 2 * (i : Int) by omega] at this
  exact this.mono fun e w' ⟨A, c, a, b, d⟩ => ⟨A, c, a, b.sl, d⟩
theorem nv_at (l : List Nat) (k : Nat) (hk : k < l.length) : ∃ h : k < (nv l).length, (nv l)[k]'h = ((l[k]'hk : Nat) : Int) := ⟨by simpa [nv] using hk, by simp [nv]⟩

set_option maxRecDepth 100000 in
theorem copMain (i j m : Nat) (w : World) (hi : i ≤ 300) (hj : j ≤ 300) (hij : i ≠ j) (h1 : Ins (2 * i) m) (h2 : Ins (2 * j) m) (hT : Tab w) :
    Calls Tryd.prog 3 #[.int .i64 (i : Int), .int .i64 (j : Int), .int .i64 (m : Int)] w fun e w' => e = .returned (.bool true) ∧ Below w.heap.size w w' := by
  obtain ⟨y, y1, y2, y3, y4⟩ := cop_law h1 h2 hij
  have t1 : decide ((300 : Int) < (i : Int)) = false := decide_eq_false (by omega)
  have t2 : decide ((300 : Int) < (j : Int)) = false := decide_eq_false (by omega)
  have t3 : ((i : Int) == (j : Int)) = false := by rw [beq_eq_false_iff_ne]; omega
  have C1 := Lib.hid (fun W hW => copE i m W h1 hW)
  have C2 := Lib.hid (fun W hW => copE j m W h2 hW)
  have HI := Lib.hid (fun x (hx : x ∈ copL (2 * i) m) => (copL_ins h1 x hx).lt)
  have C3 := Lib.hid (fun W hW => parent_ok y m W y2 y3 hW)
  have C4 : Hid (∀ W, Tab W → Calls Tryd.prog 15 #[.int .i64 (2 * (i : Int)), .int .i64 (2 * (j : Int)), .int .i64 (m : Int)] W fun e w' => e = .returned (.tuple #[.int .i64 (upN y : Nat), .int .i64 0]) ∧ Below W.heap.size W w') := fun W hW => by
    have := com_ok (2 * i) (2 * j) m W h1 h2 hW
    rwa [show (((2 * i : Nat)) : Int) = 2 * (i : Int) by omega, show (((2 * j : Nat)) : Int) = 2 * (j : Int) by omega, y4] at this
  have hlen : (copL (2 * i) m).length ≤ 8 := by
    have := (pathL_len h1 (ht m - lev (2 * i)) (by have := h1.lev_le; omega)).2
    have := ht_le h1.1; omega
  obtain ⟨L, hL⟩ : ∃ L, copL (2 * i) m = L := ⟨_, rfl⟩
  obtain ⟨L2, hL2⟩ : ∃ L, copL (2 * j) m = L := ⟨_, rfl⟩
  rw [hL] at C1 HI y1 hlen
  rw [hL2] at C2
  obtain ⟨u, hu⟩ : ∃ u, upN y = u := ⟨_, rfl⟩
  rw [hu] at C3 C4
  obtain ⟨N, hN⟩ : ∃ N, L.length = N := ⟨_, rfl⟩
  rw [hN] at C1 hlen
  obtain ⟨N2, hN2⟩ : ∃ N, L2.length = N := ⟨_, rfl⟩
  rw [hN2] at C2
  have HN := Lib.hid hN
  have HY := Lib.hid y1
  clear hL hL2 hu hN hN2 y1 y2 y3 y4 h1 h2
  go_enter Tryd.func3, Tryd.ntmps3
  go_wp2_with fail
  refine (lead w hT).mono ?_; rintro e w1 ⟨rfl, hB1⟩
  have T1 := hT.below' hB1
  go_wp2_with fail
  refine (C1.out _ T1).mono ?_; rintro e w2 ⟨A2, c2, rfl, hS2, hB2⟩
  have T2 := T1.below' hB2
  go_wp2_with fail
  refine (C2.out _ T2).mono ?_; rintro e w3 ⟨A3, c3, rfl, _, hB3⟩
  have T3 := T2.below' hB3
  have hS := hS2.below hB3
  have hB := nx (nx hB1 hB2) hB3
  clear hS2 C1 C2
  go_wp2_with fail
  go_loop [12, 13, 67] (fun a b c => ∃ k : Nat, k ≤ N ∧ c = .int .i64 (k : Int) ∧ a = .int .i64 (((L.take k).filter (over j)).length : Nat) ∧ b = .int .i64 (lastI ((L.take k).filter (over j)))) (fun _ _ c => N - (intOf c).toNat)
  case atStart => exact ⟨0, Nat.zero_le _, rfl, rfl, rfl⟩
  case round =>
    obtain ⟨k, hk, rfl, rfl, rfl⟩ := hrel
    by_cases hlt : k < N
    · obtain ⟨ad, hl, rfl, hc⟩ := hS.int hlt
      obtain ⟨hl2, he⟩ := nv_at L k (by rw [HN.out]; exact hlt)
      rw [he] at hc
      have hx := HI.out _ (List.getElem_mem (show k < L.length by rw [HN.out]; exact hlt))
      have HTk := Lib.hid (List.take_succ_eq_append_getElem (show k < L.length by rw [HN.out]; exact hlt))
      obtain ⟨x, hxe⟩ : ∃ x, L[k]'(by rw [HN.out]; exact hlt) = x := ⟨_, rfl⟩
      rw [hxe] at hc hx HTk
      have C5 := Lib.hid (fun W hW => leaves_ok x W hx hW)
      obtain ⟨lo, hlo⟩ : ∃ lo, loN x = lo := ⟨_, rfl⟩
      obtain ⟨hi', hhi⟩ : ∃ hi, hiN x = hi := ⟨_, rfl⟩
      have HO := Lib.hid (over_iff j x)
      rw [hlo, hhi] at C5 HO
      clear he hxe hlo hhi
      have i1 : ((L.take k).filter (over j)).length ≤ 8 := by
        have := List.length_filter_le (over j) (L.take k)
        rw [List.length_take] at this; omega
      obtain ⟨F, hF⟩ : ∃ F, (L.take k).filter (over j) = F := ⟨_, rfl⟩
      rw [hF] at i1 ⊢
      obtain ⟨q, hq⟩ : ∃ q, F.length = q := ⟨_, rfl⟩
      rw [hq] at i1 ⊢
      obtain ⟨z, hz⟩ : ∃ z, lastI F = z := ⟨_, rfl⟩
      rw [hz]
      by_cases a : lo ≤ j
      · by_cases b : j < hi'
        · have ho : over j x = true := HO.out.2 ⟨a, b⟩
          have tl : decide ((lo : Int) ≤ (j : Int)) = true := decide_eq_true (by omega)
          have tr : decide ((j : Int) < (hi' : Int)) = true := decide_eq_true (by omega)
          have HF : Hid ((L.take (k + 1)).filter (over j) = F ++ [x]) := Lib.hid (by rw [HTk.out, List.filter_append, hF]; simp [ho])
          have HQ := Lib.hid hq; have HZ := Lib.hid hz
          clear hF ho hq hz
          go_wp2_with fail
          refine (C5.out _ T3).mono ?_; rintro e w' ⟨rfl, rfl⟩
          go_wp2_with fail
          go_round
          case rel => exact ⟨k + 1, by omega, by go_num, by rw [HF.out, List.length_append, HQ.out]; rfl, by rw [HF.out, lastI_snoc]⟩
          case measure => simp [intOf]; omega
        · have ho : over j x = false := by rw [Bool.eq_false_iff]; intro h; exact b (HO.out.1 h).2
          have tl : decide ((lo : Int) ≤ (j : Int)) = true := decide_eq_true (by omega)
          have tr : decide ((j : Int) < (hi' : Int)) = false := decide_eq_false (by omega)
          have HF : Hid ((L.take (k + 1)).filter (over j) = F) := Lib.hid (by rw [HTk.out, List.filter_append, hF]; simp [ho])
          have HQ := Lib.hid hq; have HZ := Lib.hid hz
          clear hF ho hq hz
          go_wp2_with fail
          refine (C5.out _ T3).mono ?_; rintro e w' ⟨rfl, rfl⟩
          go_wp2_with fail
          go_round
          case rel => exact ⟨k + 1, by omega, by go_num, by rw [HF.out, HQ.out], by rw [HF.out, HZ.out]⟩
          case measure => simp [intOf]; omega
      · have ho : over j x = false := by rw [Bool.eq_false_iff]; intro h; exact a (HO.out.1 h).1
        have tl : decide ((lo : Int) ≤ (j : Int)) = false := decide_eq_false (by omega)
        have HF : Hid ((L.take (k + 1)).filter (over j) = F) := Lib.hid (by rw [HTk.out, List.filter_append, hF]; simp [ho])
        have HQ := Lib.hid hq; have HZ := Lib.hid hz
        clear hF ho hq hz
        go_wp2_with fail
        refine (C5.out _ T3).mono ?_; rintro e w' ⟨rfl, rfl⟩
        go_wp2_with fail
        go_round
        case rel => exact ⟨k + 1, by omega, by go_num, by rw [HF.out, HQ.out], by rw [HF.out, HZ.out]⟩
        case measure => simp [intOf]; omega
    · obtain rfl : k = N := by omega
      have hF : (L.take k).filter (over j) = [y] := by rw [← HN.out, List.take_length]; exact HY.out
      rw [hF]
      have hz : lastI [y] = (y : Int) := rfl
      rw [hz, show ([y] : List Nat).length = 1 from rfl]
      clear hF
      go_wp2_with fail
      refine (C3.out _ T3).mono ?_; rintro e w4 ⟨rfl, hB4⟩
      have T4 := T3.below' hB4
      go_wp2_with fail
      refine (C4.out _ T4).mono ?_; rintro e w5 ⟨rfl, hB5⟩
      have t5 : ((u : Int) == (u : Int)) = true := by simp
      go_wp2_with fail
      go_ret
      exact ⟨rfl, nx (nx hB hB4) hB5⟩
/-- one of the two is no node of the tree -/
theorem copNo1 (i j n : Int) (w : World) (hi : 0 ≤ i ∧ i ≤ 300) (hj : 0 ≤ j ∧ j ≤ 300) (hij : i ≠ j) (h1 : ¬ InsI (2 * i) n) (hT : Tab w) :
    Calls Tryd.prog 3 #[.int .i64 i, .int .i64 j, .int .i64 n] w fun e w' => e = .returned (.bool true) ∧ Below w.heap.size w w' := by
  have t0 : decide (i < 0) = false := decide_eq_false (by omega)
  have t00 : decide (j < 0) = false := decide_eq_false (by omega)
  have t1 : decide ((300 : Int) < i) = false := decide_eq_false (by omega)
  have t2 : decide ((300 : Int) < j) = false := decide_eq_false (by omega)
  have t3 : (i == j) = false := by rw [beq_eq_false_iff_ne]; omega
  have C1 := Lib.hid (fun W => cop_no (2 * i) n W h1)
  by_cases h2 : InsI (2 * j) n
  · obtain ⟨a, b, e1, rfl, hab⟩ := h2.nat
    obtain ⟨q, rfl⟩ : ∃ q : Nat, j = q := ⟨j.toNat, by omega⟩
    obtain rfl : a = 2 * q := by omega
    have C2 := Lib.hid (fun W hW => copE q b W hab hW)
    clear h1 h2 e1 hab
    go_enter Tryd.func3, Tryd.ntmps3
    go_wp2_with fail
    refine (lead w hT).mono ?_; rintro e w1 ⟨rfl, hB1⟩
    go_wp2_with fail
    refine (C1.out _).mono ?_; rintro e w' ⟨rfl, rfl⟩
    go_wp2_with fail
    refine (C2.out _ (hT.below' hB1)).mono ?_; rintro e w2 ⟨A2, c2, rfl, _, hB2⟩
    go_wp2_with fail
    go_ret
    exact ⟨rfl, nx hB1 hB2⟩
  · have C2 := Lib.hid (fun W => cop_no (2 * j) n W h2)
    clear h1 h2
    go_enter Tryd.func3, Tryd.ntmps3
    go_wp2_with fail
    refine (lead w hT).mono ?_; rintro e w1 ⟨rfl, hB1⟩
    go_wp2_with fail
    refine (C1.out _).mono ?_; rintro e w' ⟨rfl, rfl⟩
    go_wp2_with fail
    refine (C2.out _).mono ?_; rintro e w' ⟨rfl, rfl⟩
    go_wp2_with fail
    go_ret
    exact ⟨rfl, hB1⟩
theorem copNo2 (i : Nat) (j : Int) (m : Nat) (w : World) (hi : i ≤ 300) (hj : 0 ≤ j ∧ j ≤ 300) (hij : (i : Int) ≠ j) (h1 : Ins (2 * i) m) (h2 : ¬ InsI (2 * j) m) (hT : Tab w) :
    Calls Tryd.prog 3 #[.int .i64 (i : Int), .int .i64 j, .int .i64 (m : Int)] w fun e w' => e = .returned (.bool true) ∧ Below w.heap.size w w' := by
  have t00 : decide (j < 0) = false := decide_eq_false (by omega)
  have t1 : decide ((300 : Int) < (i : Int)) = false := decide_eq_false (by omega)
  have t2 : decide ((300 : Int) < j) = false := decide_eq_false (by omega)
  have t3 : ((i : Int) == j) = false := by rw [beq_eq_false_iff_ne]; omega
  have C1 := Lib.hid (fun W hW => copE i m W h1 hW)
  have C2 := Lib.hid (fun W => cop_no (2 * j) m W h2)
  clear h1 h2
  go_enter Tryd.func3, Tryd.ntmps3
  go_wp2_with fail
  refine (lead w hT).mono ?_; rintro e w1 ⟨rfl, hB1⟩
  go_wp2_with fail
  refine (C1.out _ (hT.below' hB1)).mono ?_; rintro e w2 ⟨A2, c2, rfl, _, hB2⟩
  go_wp2_with fail
  refine (C2.out _).mono ?_; rintro e w' ⟨rfl, rfl⟩
  go_wp2_with fail
  go_ret
  exact ⟨rfl, nx hB1 hB2⟩
theorem copEarly (i j n : Int) (w : World) (h : i < 0 ∨ j < 0 ∨ 300 < i ∨ 300 < j ∨ i = j) (hT : Tab w) :
    Calls Tryd.prog 3 #[.int .i64 i, .int .i64 j, .int .i64 n] w fun e w' => e = .returned (.bool true) ∧ Below w.heap.size w w' := by
  obtain ⟨a, ha⟩ : ∃ a, decide (i < 0) = a := ⟨_, rfl⟩
  obtain ⟨b, hb⟩ : ∃ b, decide (j < 0) = b := ⟨_, rfl⟩
  obtain ⟨c, hc⟩ : ∃ c, decide (300 < i) = c := ⟨_, rfl⟩
  obtain ⟨d, hd⟩ : ∃ d, decide (300 < j) = d := ⟨_, rfl⟩
  obtain ⟨f, hf⟩ : ∃ f, (i == j) = f := ⟨_, rfl⟩
  have hor : a = true ∨ b = true ∨ c = true ∨ d = true ∨ f = true := by
    rcases h with h | h | h | h | h
    · left; rw [← ha]; exact decide_eq_true h
    · right; left; rw [← hb]; exact decide_eq_true h
    · right; right; left; rw [← hc]; exact decide_eq_true h
    · right; right; right; left; rw [← hd]; exact decide_eq_true h
    · right; right; right; right; rw [← hf]; simpa using h
  clear h
  cases a
  case true =>
    go_enter Tryd.func3, Tryd.ntmps3
    go_wp2_with fail
    refine (lead w hT).mono ?_; rintro e w1 ⟨rfl, hB1⟩
    go_wp2_with fail
    go_ret
    exact ⟨rfl, hB1⟩
  cases b
  case true =>
    go_enter Tryd.func3, Tryd.ntmps3
    go_wp2_with fail
    refine (lead w hT).mono ?_; rintro e w1 ⟨rfl, hB1⟩
    go_wp2_with fail
    go_ret
    exact ⟨rfl, hB1⟩
  cases c
  case true =>
    go_enter Tryd.func3, Tryd.ntmps3
    go_wp2_with fail
    refine (lead w hT).mono ?_; rintro e w1 ⟨rfl, hB1⟩
    go_wp2_with fail
    go_ret
    exact ⟨rfl, hB1⟩
  cases d
  case true =>
    go_enter Tryd.func3, Tryd.ntmps3
    go_wp2_with fail
    refine (lead w hT).mono ?_; rintro e w1 ⟨rfl, hB1⟩
    go_wp2_with fail
    go_ret
    exact ⟨rfl, hB1⟩
  obtain rfl : f = true := by simpa using hor
  go_enter Tryd.func3, Tryd.ntmps3
  go_wp2_with fail
  refine (lead w hT).mono ?_; rintro e w1 ⟨rfl, hB1⟩
  go_wp2_with fail
  go_ret
  exact ⟨rfl, hB1⟩
theorem copWalk (i j n : Int) (w : World) (_ : -9223372036854775808 ≤ i ∧ i ≤ 9223372036854775807) (_ : -9223372036854775808 ≤ j ∧ j ≤ 9223372036854775807) (_ : -9223372036854775808 ≤ n ∧ n ≤ 9223372036854775807) (hT : Tab w) :
    Calls Tryd.prog 3 #[.int .i64 i, .int .i64 j, .int .i64 n] w fun e w' => e = .returned (.bool true) ∧ Below w.heap.size w w' := by
  by_cases h : i < 0 ∨ j < 0 ∨ 300 < i ∨ 300 < j ∨ i = j
  · exact copEarly i j n w h hT
  · by_cases h1 : InsI (2 * i) n
    · obtain ⟨a, b, e1, rfl, hab⟩ := h1.nat
      obtain ⟨q, rfl⟩ : ∃ q : Nat, i = q := ⟨i.toNat, by omega⟩
      obtain rfl : a = 2 * q := by omega
      by_cases h2 : InsI (2 * j) b
      · obtain ⟨a', b', e3, e4, hab'⟩ := h2.nat
        obtain rfl : b = b' := by omega
        obtain ⟨p, rfl⟩ : ∃ p : Nat, j = p := ⟨j.toNat, by omega⟩
        obtain rfl : a' = 2 * p := by omega
        exact copMain q p b w (by omega) (by omega) (by omega) hab hab' hT
      · exact copNo2 q j b w (by omega) (by omega) (by omega) hab h2 hT
    · exact copNo1 i j n w (by omega) (by omega) (by omega) h1 hT
end Go.Proofs.YtieeinppoiihpaaDoor
