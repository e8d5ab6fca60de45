/- The walk of the law PadWhole. -/
import Derived.Test.YtejhphjilmpfkaaPadFillsWalk
namespace Go.Proofs.Ytejhphjilmpfkaa
open Go.RowKit

theorem big_two (A : Option Addr) (n c : Nat) (B : Option Addr) (m d : Nat) (w : World) (hn : n ≤ 140737488355328) (hm : m ≤ 140737488355328) :
    Calls Try.prog 8 #[.slice (some ⟨w.heap.size, 0, none⟩) 2 2] (w.alloc (.cells #[.slice A n c, .slice B m d] 22)) fun e w' => e = .returned (.bool (decide (300000 < (n : Int) + m + 2))) ∧ w.alloc (.cells #[.slice A n c, .slice B m d] 22) = w' := by
  have hs : Sls [Value.slice A n c, Value.slice B m d] := fun v hv => by
    simp only [List.mem_cons, List.not_mem_nil, or_false] at hv
    rcases hv with rfl | rfl
    · exact ⟨A, n, c, rfl, hn⟩
    · exact ⟨B, m, d, rfl, hm⟩
  have hb : bigR [Value.slice A n c, Value.slice B m d] = (n : Int) + m + 2 := by
    have := (bigR_eq _ hs (by simp)).1
    rw [this]; simp only [List.map_cons, List.map_nil, List.sum_cons, List.sum_nil, slen_slice]; omega
  refine (big_any (some ⟨w.heap.size, 0, none⟩) 2 2 [.slice A n c, .slice B m d] _ ⟨rfl, by omega, by unfold maxLen; omega, lies_cells w #[.slice A n c, .slice B m d] 22⟩ hs).mono ?_
  rintro e w' ⟨rfl, rfl⟩
  rw [hb]; exact ⟨rfl, rfl⟩
theorem big2_yes (A : Option Addr) (n c : Nat) (B : Option Addr) (m d : Nat) (w : World) (hn : n ≤ 140737488355328) (hm : m ≤ 140737488355328) (h : 300000 < (n : Int) + m + 2) :
    Calls Try.prog 8 #[.slice (some ⟨w.heap.size, 0, none⟩) 2 2] (w.alloc (.cells #[.slice A n c, .slice B m d] 22)) fun e w' => e = .returned (.bool true) ∧ w.alloc (.cells #[.slice A n c, .slice B m d] 22) = w' :=
  (big_two A n c B m d w hn hm).mono fun _ _ ⟨h1, h2⟩ => ⟨by rw [h1, decide_eq_true h], h2⟩
theorem big2_no (A : Option Addr) (n c : Nat) (B : Option Addr) (m d : Nat) (w : World) (hn : n ≤ 140737488355328) (hm : m ≤ 140737488355328) (h : ¬ 300000 < (n : Int) + m + 2) :
    Calls Try.prog 8 #[.slice (some ⟨w.heap.size, 0, none⟩) 2 2] (w.alloc (.cells #[.slice A n c, .slice B m d] 22)) fun e w' => e = .returned (.bool false) ∧ w.alloc (.cells #[.slice A n c, .slice B m d] 22) = w' :=
  (big_two A n c B m d w hn hm).mono fun _ _ ⟨h1, h2⟩ => ⟨by rw [h1, decide_eq_false h], h2⟩

theorem padL_inj (a b : List UInt8) (ha : a.length < 65536) (hb : b.length < 65536) : padL a = padL b ↔ a = b :=
  ⟨fun h => by have := unpad_pad a ha; rw [h, unpad_pad b hb] at this; exact (Option.some.inj this).symm, fun h => by rw [h]⟩
theorem padL_take (a : List UInt8) : (padL a).take a.length = a := by simp [padL]
theorem padL_mark (a : List UInt8) : (padL a)[a.length]? = some 128 := by simp [padL]
theorem padL_rest (a : List UInt8) (j : Nat) (hj : a.length < j) (hl : j < (padL a).length) : (padL a)[j]? = some 0 := by
  simp only [padL, List.length_append, List.length_cons, List.length_replicate] at hl
  rw [padL, List.getElem?_append_right (by omega)]
  obtain ⟨k, hk⟩ : ∃ k, j - a.length = k + 1 := ⟨j - a.length - 1, by omega⟩
  rw [hk, List.getElem?_cons_succ, List.getElem?_replicate, if_pos (by omega)]

theorem ret_bool {a b : Bool} (h : a = b) : Ending.returned (.bool a) = .returned (.bool b) := by rw [h]
/-- pad.Pad, its length and bytes under names -/
theorem pad_named (A : Option Addr) (n c : Nat) (l : List UInt8) (w : World) (h : Sl w A n c (bv l)) (hn : n < 65536) :
    Calls Try.prog 9 #[.slice A n c] w fun e w' => ∃ A' M c' P, e = .returned (.tuple #[.slice A' M c', .int .i64 0]) ∧ Sl w' A' M c' (bv P) ∧ Below w.heap.size w w' ∧ Hid (P = padL l) ∧ n < M ∧ M ≤ 65536 :=
  (pad_ok A n c l w h hn).mono fun e w' ⟨A', c', h1, h2, h3⟩ => by
    have hl := h.len; rw [bv_length] at hl
    have e1 := padL_length l (by omega)
    exact ⟨A', _, c', padL l, h1, h2, h3, rfl, by rw [e1, hl]; exact lt_bk n hn, by rw [e1, hl]; exact bk_le n hn⟩

set_option maxRecDepth 100000 in
set_option maxHeartbeats 2000000 in
theorem wholeWalk (A : Option Addr) (n c : Nat) (a : List UInt8) (B : Option Addr) (m d : Nat) (b : List UInt8) (w : World) (h : Sl w A n c (bv a)) (k : Sl w B m d (bv b)) (hn : n ≤ 140737488355328) (hm : m ≤ 140737488355328) :
    Calls Try.prog 5 #[.slice A n c, .slice B m d] w fun e w' => e = .returned (.bool true) ∧ Below w.heap.size w w' := by
  have HN := Lib.hid (And.intro hn hm); clear hn hm
  have Hl := Lib.hid (show a.length = n by have := h.len; rwa [bv_length] at this)
  have Kl := Lib.hid (show b.length = m by have := k.len; rwa [bv_length] at this)
  by_cases hbig : 300000 < (n : Int) + m + 2
  · have HB := Lib.hid hbig; clear hbig
    go_enter Try.func5, Try.ntmps5
    go_wp2_with (first
      | (go_at_call 7; refine (lead w).mono ?_; rintro e w1 ⟨rfl, hB1⟩)
      | (go_at_call 8; refine (big2_yes A n c B m d w1 HN.out.1 HN.out.2 (by have := HB.out; omega)).mono ?_; rintro e w' ⟨rfl, rfl⟩))
    go_ret
    exact ⟨rfl, nxa hB1 _⟩
  · have HB := Lib.hid hbig; clear hbig
    by_cases ha : n < 65536
    · by_cases hb : m < 65536
      · have HA := Lib.hid ha; have HB2 := Lib.hid hb; clear ha hb
        go_enter Try.func5, Try.ntmps5
        go_wp2_with (first
          | (go_at_call 7; refine (lead w).mono ?_; rintro e w1 ⟨rfl, hB1⟩)
          | (go_at_call 8; refine (big2_no A n c B m d w1 HN.out.1 HN.out.2 (by have := HB.out; omega)).mono ?_; clear HN HB; rintro e w' ⟨rfl, rfl⟩)
          | (go_at_call 9; fail))
        refine (pad_named A n c a _ ((h.below hB1).alloc _) HA.out).mono ?_
        rintro e w2 ⟨A2, M, c2, P, rfl, hS2, hB2, HP, p1, p2⟩
        have HP2 := Lib.hid p2; clear p2
        go_wp2_with fail
        refine (pad_named B m d b _ (((k.below hB1).alloc _).below hB2) HB2.out).mono ?_
        rintro e w3 ⟨A3, M3, c3, P3, rfl, hS3, hB3, HP3, p3, p4⟩
        clear p3 p4
        go_wp2_with fail
        have hS := hS2.below hB3
        have hSa := ((h.below hB1).alloc (.cells #[.slice A n c, .slice B m d] 22)).below hB2 |>.below hB3
        have hSb := ((k.below hB1).alloc (.cells #[.slice A n c, .slice B m d] 22)).below hB2 |>.below hB3
        have hpre := hS.pre (k := n) (by omega)
        have eP : (bv P).take n = bv a := by rw [← bv_take, HP.out, ← Hl.out, padL_take]
        rw [eP] at hpre
        have q1 := fun j => (hpre.drewN j).str (P := Try.prog) Try.underlying22 Try.underlying5 Try.underlying9
        have q2 := fun j => (hSa.drewN j).str (P := Try.prog) Try.underlying22 Try.underlying5 Try.underlying9
        obtain ⟨ad, hl, rfl, hc⟩ := hS.byte (k := n) (by omega)
        have em : P[n]'hl = 128 := by
          have := padL_mark a
          rw [← HP.out, Hl.out, List.getElem?_eq_getElem hl] at this
          exact Option.some.inj this
        rw [em] at hc
        have hc2 : w3.cell? (ad.add n) = some (.int .u8 128) := hc
        have r1 : decide (M ≤ n) = false := by simp; omega
        have r2 : decide ((M : Int) ≤ (n : Int)) = false := by simp; omega
        have i1 : (0 : Int) ≤ (n : Int) := by omega
        have i2 : (n : Int) < (M : Int) := by omega
        have i3 : (n : Int) ≤ (c2 : Int) := by have := hS.cap; omega
        clear eP em
        go_quiet (fail)
        clear q1 hc hc2 r1 r2 hpre
        have q3 := fun j => (hS.drewN j).str (P := Try.prog) Try.underlying22 Try.underlying5 Try.underlying9
        have q4 := fun j => (hS3.drewN j).str (P := Try.prog) Try.underlying22 Try.underlying5 Try.underlying9
        have q5 := fun j => (hSb.drewN j).str (P := Try.prog) Try.underlying22 Try.underlying5 Try.underlying9
        have hfin := padL_inj a b (by rw [Hl.out]; exact HA.out) (by rw [Kl.out]; exact HB2.out)
        rw [← HP.out, ← HP3.out] at hfin
        have hfb : ((P == P3) == (a == b)) = true := by rw [beq_iff_eq, Bool.eq_iff_iff]; simpa using hfin
        have HFB := Lib.hid hfb; clear hfin hfb
        have hrest : ∀ j, n < j → j < M → w3.cell? (ad.add j) = some (.int .u8 0) := fun j h1 h2 => by
          obtain ⟨ad', hl', e', hc'⟩ := hS.byte (k := j) h2
          obtain rfl := Option.some.inj e'
          rw [hc']
          have : P[j]? = some 0 := by
            rw [HP.out]; exact padL_rest a j (by rw [Hl.out]; exact h1) (by rw [← HP.out]; exact hl')
          rw [List.getElem?_eq_getElem hl'] at this
          rw [Option.some.inj this]; rfl
        have HR := Lib.hid hrest; clear hrest
        have i4 : (n : Int) < 65536 := by have := HA.out; omega
        have i5 : (M : Int) ≤ 65536 := by have := HP2.out; omega
        have hcap := hS.cap
        by_cases hce : c2 = n + 1
        · obtain rfl : M = n + 1 := by omega
          subst hce
          go_wp2_with fail
          go_loop [64] (fun v => v = .int .i64 0) (fun _ => 0)
          case atStart => rfl
          case round =>
            subst hrel
            go_wp2_with fail
            go_ret
            exact ⟨ret_bool HFB.out, below_drewN (nx (nx (nxa hB1 _) hB2) hB3) _⟩
        · go_wp2_with fail
          go_loop [64] (fun v => ∃ j : Nat, j ≤ M - (n + 1) ∧ v = .int .i64 (j : Int)) (fun v => M - (n + 1) - (intOf v).toNat)
          case atStart => exact ⟨0, Nat.zero_le _, rfl⟩
          case round =>
            obtain ⟨j, hj, rfl⟩ := hrel
            by_cases hlt : j < M - (n + 1)
            · have hcj : w3.cell? ⟨ad.block, ad.off + (n + 1) + j, none⟩ = some (.int .u8 0) := by
                have := HR.out (n + 1 + j) (by omega) (by omega)
                have e : ad.add (n + 1 + j) = ⟨ad.block, ad.off + (n + 1) + j, none⟩ := by unfold Addr.add; rw [if_neg (by omega)]; congr 1; omega
                rw [← e]; exact this
              go_wp2_with fail
              go_round
              case rel => exact ⟨j + 1, by omega, by go_num⟩
              case measure => simp [intOf]; omega
            · obtain rfl : j = M - (n + 1) := by omega
              go_wp2_with fail
              go_ret
              exact ⟨ret_bool HFB.out, below_drewN (nx (nx (nxa hB1 _) hB2) hB3) _⟩
      · have HA := Lib.hid ha; clear ha
        have hd := fun W => pad_no B m d W (by omega) (Nat.le_trans k.cap k.top)
        have HD := Lib.hid hd; clear hd hb
        go_enter Try.func5, Try.ntmps5
        go_wp2_with (first
          | (go_at_call 7; refine (lead w).mono ?_; rintro e w1 ⟨rfl, hB1⟩)
          | (go_at_call 8; refine (big2_no A n c B m d w1 HN.out.1 HN.out.2 (by have := HB.out; omega)).mono ?_; clear HN HB; rintro e w' ⟨rfl, rfl⟩)
          | (go_at_call 9; fail))
        refine (pad_named A n c a _ ((h.below hB1).alloc _) HA.out).mono ?_
        rintro e w2 ⟨A2, M, c2, P, rfl, hS2, hB2, HP, p1, p2⟩
        have HP2 := Lib.hid p2; clear p2
        go_wp2_with fail
        refine (HD.out _).mono ?_; rintro e w' ⟨rfl, rfl⟩
        go_wp2_with fail
        go_ret
        exact ⟨rfl, nx (nxa hB1 _) hB2⟩
    · have hd := fun W => pad_no A n c W (by omega) (Nat.le_trans h.cap h.top)
      have HD := Lib.hid hd; clear hd ha
      go_enter Try.func5, Try.ntmps5
      go_wp2_with (first
        | (go_at_call 7; refine (lead w).mono ?_; rintro e w1 ⟨rfl, hB1⟩)
        | (go_at_call 8; refine (big2_no A n c B m d w1 HN.out.1 HN.out.2 (by have := HB.out; omega)).mono ?_; clear HN HB; rintro e w' ⟨rfl, rfl⟩)
        | (go_at_call 9; fail))
      refine (HD.out _).mono ?_; rintro e w' ⟨rfl, rfl⟩
      go_wp2_with fail
      refine (pad_any B m d b _ ((k.below hB1).alloc _)).mono ?_
      rintro e w3 ⟨A3, c3, rfl, hS3, hB3⟩
      go_wp2_with fail
      go_ret
      exact ⟨rfl, nx (nxa hB1 _) hB3⟩
theorem padWhole_walk (A : Option Addr) (n c : Nat) (zs : List Int) (B : Option Addr) (m d : Nat) (ys : List Int) (w : World) (h : IsRow .u8 w A n c zs) (hn : n * 1 ≤ 140737488351232) (k : IsRow .u8 w B m d ys) (hm : m * 1 ≤ 140737488351232) :
    Calls Try.prog 5 #[.slice A n c, .slice B m d] w fun e w' => e = .returned (.bool true) ∧ Below w.heap.size w w' := by
  obtain ⟨l, hs, _⟩ := h.bytes
  obtain ⟨l', ks, _⟩ := k.bytes
  exact wholeWalk A n c l B m d l' w hs ks (by omega) (by omega)
end Go.Proofs.Ytejhphjilmpfkaa
