/- The walk of the reference's Splice. -/
import Derived.Test.YtejoiamdhjhjhaaSpliceP
namespace Go.Proofs.Ytejoiamdhjhjhaa
open Go.RowKit

set_option maxRecDepth 100000 in
set_option maxHeartbeats 4000000 in
theorem rsplice_ok (A : Option Addr) (n c : Nat) (l : List St) (q : Int) (s : St) (w : World) (h : Ss w A n c l) (hn : n ≤ 1000) :
    Calls Try.prog 25 #[.slice A n c, .int .i64 q, .agg #[.int .i64 s.d, .int .i64 s.who, .int .i64 s.of]] w fun e w' => ∃ A' c', e = .returned (.slice A' (spl q.toNat s l).length c') ∧ Ow w' w.heap.size 31 3 A' (spl q.toNat s l).length c' (svs (spl q.toNat s l)) ∧ Below w.heap.size w w' := by
  have HL := Lib.hid h.len
  obtain ⟨w0, hw0⟩ : ∃ w0, w.alloc (.cells #[.int .i64 s.d, .int .i64 s.who, .int .i64 s.of] 31) = w0 := ⟨_, rfl⟩
  have hb0 := B3.new w s
  have HB0 : Hid (Below w.heap.size w w0) := Lib.hid (by rw [← hw0]; exact (Below.refl _ w).alloc (Nat.le_refl _) _)
  obtain ⟨gs, hgs⟩ : ∃ g, w.heap.size = g := ⟨_, rfl⟩
  have HG := Lib.hid hgs
  have Hs : Hid (Ss w0 A n c l) := Lib.hid (by rw [← hw0]; exact h.alloc _)
  rw [hw0, hgs] at hb0
  have HB3 := Lib.hid hb0
  have hsz0 := hb0.lt
  go_enter Try.func25, Try.ntmps25
  go_wp2_with fail
  clear h hw0 hgs hb0
  go_loopw [7, 12] (fun v i wr => ∃ (r : Nat) (A' : Option Addr) (c' : Nat), r ≤ n ∧ i = .int .i64 (r : Int) ∧ v = .slice A' (spl q.toNat s (l.take r)).length c' ∧ Ow wr w0.heap.size 31 3 A' (spl q.toNat s (l.take r)).length c' (svs (spl q.toNat s (l.take r))) ∧ Below w0.heap.size w0 wr) (fun _ i _ => n - (intOf i).toNat)
  case atStart => exact ⟨0, none, 0, Nat.zero_le _, rfl, rfl, Ow.nil _ _ _ _, Below.refl _ _⟩
  case round =>
    obtain ⟨r, A', c', hk, rfl, rfl, hO, hB⟩ := hrel
    by_cases hlt : r < n
    · obtain ⟨ad, x, rfl, h1, h2, h3, h4⟩ := (Hs.out.below hB).at_ hlt
      have hlen := spl_len q.toNat s (l.take r)
      rw [List.length_take, HL.out, Nat.min_eq_left hk] at hlen
      have HT : Hid (spl q.toNat s (l.take (r + 1)) = if (r + 1) % q.toNat = 0 then spl q.toNat s (l.take r) ++ [x, s] else spl q.toNat s (l.take r) ++ [x]) := Lib.hid (by
        rw [List.take_add_one, h1, Option.toList_some, spl_snoc, List.length_take, HL.out, Nat.min_eq_left hk])
      obtain ⟨O, hOe⟩ : ∃ O, spl q.toNat s (l.take r) = O := ⟨_, rfl⟩
      rw [hOe] at hO hlen HT ⊢
      obtain ⟨L, hL⟩ : ∃ L, O.length = L := ⟨_, rfl⟩
      rw [hL] at hO hlen ⊢
      have HLL := Lib.hid hL
      have b := B3.new wr x
      have q0 := b.c0; have q1 := b.c1; have q2 := b.c2
      have hO1 := hO.alloc (.cells #[.int .i64 x.d, .int .i64 x.who, .int .i64 x.of] 31)
      have hB1 : Below w0.heap.size w0 (wr.alloc (.cells #[.int .i64 x.d, .int .i64 x.who, .int .i64 x.of] 31)) := nxa hB _
      have hsz1 := hB1.size
      clear h1 hOe hL b
      by_cases hq : q < 1
      · have HE : Hid (spl q.toNat s (l.take (r + 1)) = O ++ [x]) := Lib.hid (by rw [HT.out, if_neg (by rw [show q.toNat = 0 by omega, Nat.mod_zero]; omega)])
        have t1 : decide (1 ≤ q) = false := decide_eq_false (by omega)
        go_wp2_with (at_builtin; refine wpList_app (o := ⟨some 20, _, _, _, _, _⟩) E22 rfl rfl rfl (hO1.alloc _) rfl (lies_sv _ x _ (by simp)) rfl (svs_one [x]) (by unfold maxLen; omega) (by omega) (Nat.le_trans hsz1 (by simp)) ?_; intro A4 c4 w4 hO4 hG4 hB4; have hB4' : Below w0.heap.size w0 w4 := (hB1.alloc hB1.size _).trans hB4; have b4 := HB3.out.below hB4' hsz0; have k0 := b4.c0; have k1 := b4.c1; have k2 := b4.c2)
        go_roundw
        case rel => exact ⟨r + 1, A4, c4, by omega, by go_num, by rw [HE.out, List.length_append, HLL.out]; rfl, by rw [HE.out, List.length_append, HLL.out, svs_append]; exact hO4, hB4'⟩
        case measure => simp [intOf]; omega
      · obtain ⟨m, rfl⟩ : ∃ m : Nat, q = m := ⟨q.toNat, by omega⟩
        have t1 : decide ((1 : Int) ≤ (m : Int)) = true := decide_eq_true (by omega)
        have t2 : ((m : Int) == 0) = false := by rw [beq_eq_false_iff_ne]; omega
        have t4 : ¬ ((m : Int) = 0) := by omega
        rw [Int.toNat_natCast] at HT ⊢
        by_cases hz : (r + 1) % m = 0
        · have HE : Hid (spl m s (l.take (r + 1)) = O ++ [x, s]) := Lib.hid (by rw [HT.out, if_pos hz])
          have t5 : ((r : Int) + 1) % (m : Int) = 0 := by rw [show (r : Int) + 1 = ((r + 1 : Nat) : Int) by omega, ← Int.natCast_emod, hz]; rfl
          clear hz
          go_wp2_with (first
            | (at_builtin; refine wpList_app (o := ⟨some 20, _, _, _, _, _⟩) E22 rfl rfl rfl (hO1.alloc _) rfl (lies_sv _ x _ (by simp)) rfl (svs_one [x]) (by unfold maxLen; omega) (by omega) (Nat.le_trans hsz1 (by simp)) ?_; intro A4 c4 w4 hO4 hG4 hB4; have hB4' : Below w0.heap.size w0 w4 := (hB1.alloc hB1.size _).trans hB4; have b4 := HB3.out.below hB4' hsz0; have k0 := b4.c0; have k1 := b4.c1; have k2 := b4.c2; have hsz4 := hB4'.size)
            | (at_builtin; refine wpList_app (o := ⟨some 33, _, _, _, _, _⟩) E22 rfl rfl rfl (hO4.alloc _) rfl (lies_sv _ s _ (by simp)) rfl (svs_one [s]) (by unfold maxLen; omega) (by omega) (Nat.le_trans hsz4 (by simp)) ?_; intro A5 c5 w5 hO5 hG5 hB5; have hB5' : Below w0.heap.size w0 w5 := (hB4'.alloc hB4'.size _).trans hB5))
          go_roundw
          case rel => exact ⟨r + 1, A5, c5, by omega, by go_num, by rw [HE.out, List.length_append, HLL.out]; rfl, by rw [HE.out, List.length_append, HLL.out, show O ++ [x, s] = O ++ [x] ++ [s] by simp, svs_append, svs_append]; exact hO5, hB5'⟩
          case measure => simp [intOf]; omega
        · have HE : Hid (spl m s (l.take (r + 1)) = O ++ [x]) := Lib.hid (by rw [HT.out, if_neg hz])
          have t5 : ¬ ((r : Int) + 1) % (m : Int) = 0 := by rw [show (r : Int) + 1 = ((r + 1 : Nat) : Int) by omega, ← Int.natCast_emod]; omega
          have t3 : (((r : Int) + 1) % (m : Int) == 0) = false := by rw [beq_eq_false_iff_ne]; exact t5
          clear hz
          go_wp2_with (at_builtin; refine wpList_app (o := ⟨some 20, _, _, _, _, _⟩) E22 rfl rfl rfl (hO1.alloc _) rfl (lies_sv _ x _ (by simp)) rfl (svs_one [x]) (by unfold maxLen; omega) (by omega) (Nat.le_trans hsz1 (by simp)) ?_; intro A4 c4 w4 hO4 hG4 hB4; have hB4' : Below w0.heap.size w0 w4 := (hB1.alloc hB1.size _).trans hB4; have b4 := HB3.out.below hB4' hsz0; have k0 := b4.c0; have k1 := b4.c1; have k2 := b4.c2)
          go_roundw
          case rel => exact ⟨r + 1, A4, c4, by omega, by go_num, by rw [HE.out, List.length_append, HLL.out]; rfl, by rw [HE.out, List.length_append, HLL.out, svs_append]; exact hO4, hB4'⟩
          case measure => simp [intOf]; omega
    · obtain rfl : r = n := by omega
      have hT : l.take r = l := by rw [← HL.out, List.take_length]
      rw [hT] at hO ⊢
      clear hT
      go_wp2_with fail
      go_ret
      exact ⟨A', c', rfl, by rw [HG.out]; exact hO.mono (by omega), by rw [HG.out]; have := HB0.out; rw [HG.out] at this; exact this.trans (hB.mono (by omega))⟩
end Go.Proofs.Ytejoiamdhjhjhaa
