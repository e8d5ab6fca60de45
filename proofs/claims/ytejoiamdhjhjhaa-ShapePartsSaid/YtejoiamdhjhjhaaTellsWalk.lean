/- The walk of the law ShapeTells. -/
import Derived.Test.YtejoiamdhjhjhaaSpliceWalk
import Derived.Test.YtejoiamdhjhjhaaBackWalk
import Derived.Test.YtejoiamdhjhjhaaFindsWalk
namespace Go.Proofs.Ytejoiamdhjhjhaa
open Go.RowKit

set_option maxRecDepth 100000 in
set_option maxHeartbeats 4000000 in
theorem tellsWalk (A : Option Addr) (n c : Nat) (l : List St) (B : Option Addr) (p d : Nat) (m : List St) (q : Int) (s : St) (w : World) (h : Ss w A n c l) (hl : Hid (∀ s ∈ l, StWf s)) (k : Ss w B p d m) (hm : Hid (∀ s ∈ m, StWf s)) (hq : Wf q) :
    Calls Try.prog 6 #[.slice A n c, .slice B p d, .int .i64 q, .agg #[.int .i64 s.d, .int .i64 s.who, .int .i64 s.of]] w fun e w' => e = .returned (.bool true) ∧ Below w.heap.size w w' := by
  have HL := Lib.hid h.len
  have HQ := Lib.hid hq
  obtain ⟨w0, hw0⟩ : ∃ w0, w.alloc (.cells #[.int .i64 s.d, .int .i64 s.who, .int .i64 s.of] 31) = w0 := ⟨_, rfl⟩
  have b0 := B3.new w s
  have hB0' : Below w.heap.size w w0 := by rw [← hw0]; exact (Below.refl _ w).alloc (Nat.le_refl _) _
  have h0 : Ss w0 A n c l := by rw [← hw0]; exact h.alloc _
  have k0 : Ss w0 B p d m := by rw [← hw0]; exact k.alloc _
  obtain ⟨gs, hgs⟩ : ∃ g, w.heap.size = g := ⟨_, rfl⟩
  have HG := Lib.hid hgs
  rw [hw0, hgs] at b0
  go_enter Try.func6, Try.ntmps6
  go_wp2_with fail
  clear h k hw0 hgs hq
  refine (lead w0).mono ?_; rintro e w1 ⟨rfl, hB1⟩
  go_wp2_with fail
  refine (few2 w1 A B n c p d _ rfl).mono ?_; rintro e w' ⟨⟨b, rfl, hb⟩, rfl⟩
  cases b
  case false =>
    go_wp2_with fail
    go_ret
    exact ⟨rfl, nxa (nx hB0' hB1) _⟩
  obtain ⟨hn, hp⟩ := hb.1 rfl
  clear hb
  have h1 := (h0.below hB1).alloc (.cells #[.slice A n c, .slice B p d] 22)
  have k1 := (k0.below hB1).alloc (.cells #[.slice A n c, .slice B p d] 22)
  have b1 := (b0.below hB1 b0.lt).alloc (.cells #[.slice A n c, .slice B p d] 22)
  have hB1' := nxa (nx hB0' hB1) (.cells #[.slice A n c, .slice B p d] 22)
  obtain ⟨W1, hW1⟩ : ∃ W1, w1.alloc (.cells #[.slice A n c, .slice B p d] 22) = W1 := ⟨_, rfl⟩
  rw [hW1] at h1 k1 b1 hB1' ⊢
  have HCL : Hid ((canL l).length = n) := Lib.hid (by rw [canL, List.length_map]; exact HL.out)
  have hf1 := h1.flat
  have HLN : Hid ((svs l).length = n * 3) := Lib.hid (by rw [svs_len, HL.out, Nat.mul_comm])
  clear h0 k0 b0 hB1 hB0' hW1
  go_wp2_with (at_builtin; refine wpList_app (o := ⟨some 22, _, _, _, _, _⟩) E22 rfl rfl rfl (Ow.nil W1 W1.heap.size 31 3) rfl hf1 HLN.out (svs_one l) (by unfold maxLen; omega) (by omega) (Nat.le_refl _) ?_; intro A2 c2 w2 hO2 hG2 hB2)
  rw [Nat.zero_add, List.nil_append] at hO2
  have h2 := h1.below hB2
  have k2 := k1.below hB2
  have b2 := b1.below hB2 b1.lt
  have hB2' := nx hB1' hB2
  have s2 := hO2.ss HL.out
  clear h1 k1 b1 hf1 hB1' hO2 hG2 hB2

  go_wp2_with fail
  refine (can_ok A n c l _ h2 (by omega) hl).mono ?_
  rintro e w3 ⟨A3, c3, rfl, hO3, hB3⟩
  have h3 := h2.below hB3; have k3 := k2.below hB3; have b3 := b2.below hB3 b2.lt; have hB3' := nx hB2' hB3
  have s3 := s2.below hB3
  have x3 := hO3.ss HCL.out; clear hO3
  clear h2 k2 b2 hB2' s2 hB3
  go_wp2_with fail
  refine (rcan_ok A n c l _ h3 (by omega)).mono ?_
  rintro e w4 ⟨A4, c4, rfl, hO4, hB4⟩
  have h4 := h3.below hB4; have k4 := k3.below hB4; have b4 := b3.below hB4 b3.lt; have hB4' := nx hB3' hB4
  have s4 := s3.below hB4
  have x4 := x3.below hB4
  have y4 := hO4.ss HCL.out; clear hO4
  clear h3 k3 b3 hB3' s3 x3 hB4
  go_wp2_with fail
  refine (same_yes A3 A4 n c3 c4 (canL l) _ x4 y4).mono ?_
  rintro e w5 ⟨rfl, hB5⟩
  have h5 := h4.below hB5; have k5 := k4.below hB5; have b5 := b4.below hB5 b4.lt; have hB5' := nx hB4' hB5
  have s5 := s4.below hB5
  have x5 := x4.below hB5
  have y5 := y4.below hB5
  clear h4 k4 b4 hB4' s4 x4 y4 hB5
  clear x5 y5
  obtain ⟨ac, hac⟩ : ∃ ac, actL l = ac := ⟨_, rfl⟩
  have hal := act_len l
  rw [HL.out, hac] at hal
  have HAC := Lib.hid hac
  clear hac
  go_wp2_with fail
  refine (act_ok A n c l _ h5 (by omega) hl).mono ?_
  rintro e w6 ⟨A6, c6, rfl, hO6, hB6⟩
  have h6 := h5.below hB6; have k6 := k5.below hB6; have b6 := b5.below hB6 b5.lt; have hB6' := nx hB5' hB6
  have s6 := s5.below hB6
  rw [HAC.out] at hO6 ⊢; have x6 := hO6.sl; clear hO6
  clear h5 k5 b5 hB5' s5 hB6
  go_wp2_with fail
  refine (ract_ok A n c l _ h6 (by omega)).mono ?_
  rintro e w7 ⟨A7, c7, rfl, hO7, hB7⟩
  have h7 := h6.below hB7; have k7 := k6.below hB7; have b7 := b6.below hB7 b6.lt; have hB7' := nx hB6' hB7
  have s7 := s6.below hB7
  have x7 := x6.below hB7
  rw [HAC.out] at hO7 ⊢; have y7 := hO7.sl; clear hO7
  clear h6 k6 b6 hB6' s6 x6 hB7
  go_wp2_with fail
  refine (ints_yes A6 A7 _ c6 c7 ac _ x7 y7).mono ?_
  rintro e w8 ⟨rfl, hB8⟩
  have h8 := h7.below hB8; have k8 := k7.below hB8; have b8 := b7.below hB8 b7.lt; have hB8' := nx hB7' hB8
  have s8 := s7.below hB8
  have x8 := x7.below hB8
  have y8 := y7.below hB8
  clear h7 k7 b7 hB7' s7 x7 y7 hB8
  clear x8 y8
  go_wp2_with fail
  refine (kinds_ok A n c l _ h8 (by omega)).mono ?_
  rintro e w9 ⟨rfl, hB9⟩
  have h9 := h8.below hB9; have k9 := k8.below hB9; have b9 := b8.below hB9 b8.lt; have hB9' := nx hB8' hB9
  have s9 := s8.below hB9
  clear h8 k8 b8 hB8' s8 hB9
  go_wp2_with fail
  refine (rkinds_ok A n c l _ h9 (by omega)).mono ?_
  rintro e w10 ⟨rfl, hB10⟩
  have h10 := h9.below hB10; have k10 := k9.below hB10; have b10 := b9.below hB10 b9.lt; have hB10' := nx hB9' hB10
  have s10 := s9.below hB10
  clear h9 k9 b9 hB9' s9 hB10
  have xg := guard33
  have xn := arr_neq
  have xe := arr_eql
  go_wp2_with fail
  refine (alike_dec A B n p c d l m _ h10 k10 (by omega) (by omega) hl hm).mono ?_
  rintro e w11 ⟨rfl, hB11⟩
  have h11 := h10.below hB11; have k11 := k10.below hB11; have b11 := b10.below hB11 b10.lt; have hB11' := nx hB10' hB11
  have s11 := s10.below hB11
  clear h10 k10 b10 hB10' s10 hB11
  go_wp2_with fail
  refine (ralike_dec A B n p c d l m _ h11 k11 (by omega) (by omega)).mono ?_
  rintro e w12 ⟨rfl, hB12⟩
  have h12 := h11.below hB12; have k12 := k11.below hB12; have b12 := b11.below hB12 b11.lt; have hB12' := nx hB11' hB12
  have s12 := s11.below hB12
  clear h11 k11 b11 hB11' s11 hB12
  clear xg xn xe
  generalize decide (canL l = canL m) = al
  have tal : (al != al) = false := by simp
  have z0 := b12.c0; have z1 := b12.c1; have z2 := b12.c2
  obtain ⟨y, hy⟩ : ∃ y, spl q.toNat s l = y := ⟨_, rfl⟩
  have hyl := spl_len q.toNat s l
  rw [HL.out, hy] at hyl
  have HY := Lib.hid hy
  clear hy
  have HH := Lib.hid h12; have HS := Lib.hid s12; have HBB := Lib.hid hB12'
  go_wp2_with fail
  refine (splice_ok A n c l q s _ h12 (by omega) HQ.out).mono ?_
  rintro e w13 ⟨A13, c13, rfl, hO13, hB13⟩
  have h13 := h12.below hB13; have k13 := k12.below hB13; have b13 := b12.below hB13 b12.lt; have hB13' := nx hB12' hB13
  have s13 := s12.below hB13
  rw [HY.out] at hO13 ⊢; have hBy13 := hB13; clear z0 z1 z2; have z0 := b13.c0; have z1 := b13.c1; have z2 := b13.c2
  clear h12 k12 b12 hB12' s12 hB13
  go_wp2_with fail
  refine (rsplice_ok A n c l q s _ h13 (by omega)).mono ?_
  rintro e w14 ⟨A14, c14, rfl, hO14, hB14⟩
  have h14 := h13.below hB14; have k14 := k13.below hB14; have b14 := b13.below hB14 b13.lt; have hB14' := nx hB13' hB14
  have s14 := s13.below hB14
  rw [HY.out] at hO14 ⊢; have u14 := hO14.ss rfl; have hO13' := hO13.below hB14; have t14 := hO13'.ss rfl; have hBy14 := hBy13.trans (hB14.mono hBy13.size); clear z0 z1 z2 hO14 hO13 hBy13
  clear h13 k13 b13 hB13' s13 hB14
  go_wp2_with fail
  refine (same_yes A13 A14 _ c13 c14 y _ t14 u14).mono ?_
  rintro e w15 ⟨rfl, hB15⟩
  have h15 := h14.below hB15; have k15 := k14.below hB15; have b15 := b14.below hB15 b14.lt; have hB15' := nx hB14' hB15
  have s15 := s14.below hB15
  have hO15 := hO13'.below hB15; have hBy15 := hBy14.trans (hB15.mono hBy14.size); clear t14 u14 hO13' hBy14
  clear h14 k14 b14 hB14' s14 hB15
  obtain ⟨N, hN⟩ : ∃ N, y.length = N := ⟨_, rfl⟩
  rw [hN] at hO15 hyl ⊢
  clear hN b15 k15
  go_wp2_with fail
  go_loopw [13, 67] (fun _ i wr => ∃ (r : Nat) (xs : List Value), r ≤ N ∧ i = .int .i64 (r : Int) ∧ Ow wr w12.heap.size 31 3 A13 N c13 xs ∧ Below w12.heap.size w12 wr) (fun _ i _ => N - (intOf i).toNat)
  case atStart => exact ⟨0, _, Nat.zero_le _, rfl, hO15, hBy15⟩
  case round =>
    clear hO15 h15 s15 hB15' hBy15
    obtain ⟨r, xs, hr, rfl, hO, hB⟩ := hrel
    by_cases hlt : r < N
    · obtain ⟨g, rfl, hg1, hg2⟩ := hO.form (by omega)
      have hlen := hO.1
      obtain ⟨v, hc⟩ : ∃ v, wr.cell? ⟨g, r * 3, none⟩ = some v := ⟨_, (World.ownsRow.cellAt hO (r * 3) (by omega)).trans (List.getElem?_eq_getElem (by rw [hlen]; omega))⟩
      have hz := World.ownsRow.frozenAt hO (r * 3)
      have hO2 : Ow (wr.setCell ⟨g, r * 3, none⟩ (.int .i64 99)) w12.heap.size 31 3 (some ⟨g, 0, none⟩) N c13 (xs.set (r * 3) (.int .i64 99)) := (World.ownsRow.stored hO (r * 3) (.int .i64 99)).1
      have hB2 := hB.setCell (p := ⟨g, r * 3, none⟩) hg1 (.int .i64 99)
      have ir : (r : Int) < (N : Int) := by omega
      clear hO hB hlen
      go_wp2_with fail
      go_roundw
      case rel => exact ⟨r + 1, _, by omega, by go_num, hO2, hB2⟩
      case measure => simp [intOf]; omega
    · obtain rfl : r = N := by omega
      have h1 := HH.out.below hB
      have s1 := HS.out.below hB
      have hB1 := nx HBB.out hB
      clear hO hB
      go_wp2_with fail
      refine (same_yes A A2 n c c2 l _ h1 s1).mono ?_; rintro e w99 ⟨rfl, hB99⟩
      go_wp2_with fail
      go_ret
      exact ⟨rfl, nx hB1 hB99⟩
end Go.Proofs.Ytejoiamdhjhjhaa
