/- The walk of the law ShapeParts. -/
import Derived.Test.YtejoiamdhjhjhaaPartsP
import Derived.Deep.RegionHeld3
namespace Go.Proofs.Ytejoiamdhjhjhaa
open Go.RowKit

theorem Ss.take {w : World} {A : Option Addr} {n c : Nat} {l : List St} (h : Ss w A n c l) {k : Nat} (hk : k ≤ n) : Ss w A k c (l.take k) := by
  have hl := h.len
  refine ⟨by rw [List.length_take]; omega, Nat.le_trans hk h.cap, h.top, ?_⟩
  rcases h.lies with e | ⟨ad, e, hc⟩
  · exact .inl (by rw [e, List.take_nil])
  · exact .inr ⟨ad, e, fun j s hj => hc j s (by rw [List.getElem?_take] at hj; split at hj; exact hj; cases hj)⟩
theorem rem_in (k : Int) (n : Nat) : ∃ kk : Nat, kk ≤ n ∧ (Int.tmod k ((n : Int) + 1) + (n : Int) + 1).tmod ((n : Int) + 1) = (kk : Int) ∧ 0 ≤ Int.tmod k ((n : Int) + 1) + (n : Int) ∧ Int.tmod k ((n : Int) + 1) + (n : Int) ≤ 2 * (n : Int) := by
  have h1 := Int.tmod_lt_of_pos k (show (0 : Int) < (n : Int) + 1 by omega)
  have h2 : -((n : Int) + 1) < Int.tmod k ((n : Int) + 1) := by
    have := Int.tmod_lt_of_pos (-k) (show (0 : Int) < (n : Int) + 1 by omega)
    rw [Int.neg_tmod] at this; omega
  obtain ⟨x, hx⟩ : ∃ x, Int.tmod k ((n : Int) + 1) = x := ⟨_, rfl⟩
  rw [hx] at h1 h2 ⊢
  obtain ⟨y, hy⟩ : ∃ y : Nat, x + (n : Int) + 1 = y := ⟨(x + (n : Int) + 1).toNat, by omega⟩
  refine ⟨y % (n + 1), by have := Nat.mod_lt y (show n + 1 > 0 by omega); omega, ?_, by omega, by omega⟩
  rw [hy, show (n : Int) + 1 = ((n + 1 : Nat) : Int) by omega, ← Int.ofNat_tmod]
theorem C8.mk (w : World) (f : Nat → Nat) : C8 (w.alloc (.cells #[.int .i64 (f 0 : Nat), .int .i64 (f 1 : Nat), .int .i64 (f 2 : Nat), .int .i64 (f 3 : Nat), .int .i64 (f 4 : Nat), .int .i64 (f 5 : Nat), .int .i64 (f 6 : Nat), .int .i64 (f 7 : Nat)] 33)) w.heap.size f := by
  intro i hi
  match i, hi with
  | 0, _ | 1, _ | 2, _ | 3, _ | 4, _ | 5, _ | 6, _ | 7, _ => exact ⟨by simp, by simp⟩
set_option maxRecDepth 100000 in
set_option maxHeartbeats 8000000 in
theorem partsWalk (A : Option Addr) (n c : Nat) (l : List St) (k q of : Int) (w : World) (h : Ss w A n c l) (hl : Hid (∀ s ∈ l, StWf s)) (hk : Wf k) (hq : Wf q) (hof : Wf of) :
    Calls Try.prog 4 #[.slice A n c, .int .i64 k, .int .i64 q, .int .i64 of] w fun e w' => e = .returned (.bool true) ∧ Below w.heap.size w w' := by
  have HL := Lib.hid h.len
  have HQ := Lib.hid hq
  have HF := Lib.hid hof
  go_enter Try.func4, Try.ntmps4
  go_wp2_with fail
  clear hq hof
  refine (lead w).mono ?_; rintro e w1 ⟨rfl, hB1⟩
  go_wp2_with fail
  refine (few1 w1 A n c _ rfl).mono ?_; rintro e w' ⟨⟨b, rfl, hb⟩, rfl⟩
  cases b
  case false =>
    go_wp2_with fail
    go_ret
    exact ⟨rfl, nxa hB1 _⟩
  have hn := hb.1 rfl
  clear hb
  have h1 := (h.below hB1).alloc (.cells #[.slice A n c] 22)
  have hB1' := nxa hB1 (.cells #[.slice A n c] 22)
  obtain ⟨W1, hW1⟩ : ∃ W1, w1.alloc (.cells #[.slice A n c] 22) = W1 := ⟨_, rfl⟩
  rw [hW1] at h1 hB1' ⊢
  clear h hB1 hW1
  obtain ⟨kk, hkk, hr, hr1, hr2⟩ := rem_in k n
  have nz : ¬ ((n : Int) + 1 = 0) := by omega
  have kd1 := hk.1; have kd2 := hk.2
  go_wp2_with fail
  have HCW := Lib.hid (can_wf (by rw [HL.out]; omega) hl.out)
  have HCL : Hid ((canL l).length = n) := Lib.hid (by rw [canL, List.length_map]; exact HL.out)
  refine (can_ok A n c l _ h1 (by omega) hl).mono ?_; rintro e w2 ⟨A2, c2, rfl, hO2, hB2⟩
  have h2 := h1.below hB2
  have s2 := hO2.ss HCL.out
  have hB2' := nx hB1' hB2
  clear h1 hO2 hB1' hB2
  have tn : ((n : Int) != (n : Int)) = false := by simp
  have i1 : (kk : Int) ≤ (c : Int) := by have := h2.cap; omega
  have i2 : (kk : Int) ≤ (c2 : Int) := by have := s2.cap; omega
  have i3 : (kk : Int) ≤ (n : Int) := by omega
  have i4 : (0 : Int) ≤ (kk : Int) := by omega
  have HCT := Lib.hid (can_take l kk)
  have HTW : Hid (∀ s ∈ l.take kk, StWf s) := Lib.hid (fun s hs => hl.out s (List.mem_of_mem_take hs))
  have HTL : Hid (((canL l).take kk).length = kk) := Lib.hid (by rw [List.length_take, HCL.out]; omega)
  have hd := (h2.take hkk).below ((Below.refl w2.heap.size w2).drew)
  have sd := (s2.take hkk).below ((Below.refl w2.heap.size w2).drew)
  go_wp2_with fail
  go_region_held3 (fun _ => True) (exact trivial) (first
    | (go_at_call 12; refine (can_ok A kk c (l.take kk) _ hd (by omega) HTW).mono ?_; rintro e w3 ⟨A3, c3, rfl, hO3, hB3⟩; rw [HCT.out] at hO3; have s3 := hO3.ss HTL.out; have sd3 := sd.below hB3; have hB3' := nx hB2'.drew hB3; have h3 := (h2.below ((Below.refl w2.heap.size w2).drew)).below hB3; have z3 := (s2.below ((Below.refl w2.heap.size w2).drew)).below hB3; clear hO3 hB3)
    | (go_at_call 13; refine (same_yes A3 A2 kk c3 c2 ((canL l).take kk) _ s3 sd3).mono ?_; rintro e w4 ⟨rfl, hB4⟩; have hB4' := nx hB3' hB4; have h4 := h3.below hB4; have z4 := z3.below hB4; clear hB4))
  clear hd sd hB2' h2 s2 h3 z3 s3 sd3 hB3' i1 i2 i3 i4 hr hr1 hr2 nz kd1 kd2 tn HTL HTW HCT
  have HCA := Lib.hid (can_spl q.toNat of l)
  have HAC := Lib.hid (act_spl q.toNat ⟨7, 0, of⟩ rfl l)
  have HKC := Lib.hid (spl_kcnt q.toNat of l)
  have HXL := Lib.hid (spl_length q.toNat ⟨7, 0, of⟩ l)
  have HXW : Hid (∀ s ∈ spl q.toNat ⟨7, 0, of⟩ l, StWf s) := Lib.hid (spl_wf HF.out hl.out)
  have hxl := spl_len q.toNat ⟨7, 0, of⟩ l
  have hyl : (spl q.toNat ⟨7, 0, of⟩ (canL l)).length = (spl q.toNat ⟨7, 0, of⟩ l).length := by rw [spl_length, spl_length, can_length]
  have HS5 := Lib.hid (fun W hW => splice_ok A n c l q ⟨7, 0, of⟩ W hW (by omega) HQ.out)
  have HS6 := Lib.hid (fun W hW => splice_ok A2 n c2 (canL l) q ⟨7, 0, of⟩ W hW (by omega) HQ.out)
  rw [hyl] at HS6
  obtain ⟨x, hx⟩ : ∃ x, spl q.toNat ⟨7, 0, of⟩ l = x := ⟨_, rfl⟩
  obtain ⟨y, hy⟩ : ∃ y, spl q.toNat ⟨7, 0, of⟩ (canL l) = y := ⟨_, rfl⟩
  rw [hx] at HCA HAC HKC HXL HXW hxl hyl HS5 HS6
  rw [hy] at HCA hyl HS6
  obtain ⟨X, hX⟩ : ∃ X, x.length = X := ⟨_, rfl⟩
  rw [hX] at HXL hxl hyl HS5 HS6
  rw [HL.out] at hxl HXL HKC
  have HXX := Lib.hid hX
  have HYY := Lib.hid hyl
  clear hx hy hX hyl
  have b5 := B3.new w4 ⟨7, 0, of⟩
  have t0 := b5.c0; have t1 := b5.c1; have t2 := b5.c2
  go_wp2_with fail
  refine (HS5.out _ (h4.alloc _)).mono ?_; rintro e w6 ⟨A6, c6, rfl, hO6, hB6⟩
  have h6 := (h4.alloc _).below hB6
  have z6 := (z4.alloc _).below hB6
  have b6 := b5.below hB6 b5.lt
  have hB6' := nx (nxa hB4' _) hB6
  have s6 := hO6.ss HXX.out
  clear t0 t1 t2
  have t0 := b6.c0; have t1 := b6.c1; have t2 := b6.c2
  clear h4 z4 b5 hB4' hO6 hB6 HS5
  go_wp2_with fail
  refine (HS6.out _ z6).mono ?_; rintro e w7 ⟨A7, c7, rfl, hO7, hB7⟩
  have h7 := h6.below hB7
  have s7 := s6.below hB7
  have hB7' := nx hB6' hB7
  have y7 := hO7.ss HYY.out
  clear h6 z6 b6 hB6' hO7 hB7 HS6 s6 t0 t1 t2
  go_wp2_with fail
  refine (kinds_ok A6 X c6 x _ s7 (by omega)).mono ?_; rintro e w8 ⟨rfl, hB8⟩
  have h8 := h7.below hB8
  have s8 := s7.below hB8
  have y8 := y7.below hB8
  have hB8' := nx hB7' hB8
  clear h7 s7 y7 hB7' hB8
  obtain ⟨f, hf⟩ : ∃ f, kcnt x = f := ⟨_, rfl⟩
  rw [hf] at HKC ⊢
  have hcf := (show f 7 ≤ X by rw [← hf, ← HXX.out]; exact kcnt_le x 7)
  clear hf
  unfold kagg
  go_wp2_with fail
  refine (kinds_ok A n c l _ (h8.alloc _) (by omega)).mono ?_; rintro e w9 ⟨rfl, hB9⟩
  have h9 := (h8.alloc _).below hB9
  have s9 := (s8.alloc _).below hB9
  have y9 := (y8.alloc _).below hB9
  have hB9' := nx (nxa hB8' _) hB9
  have c9 := (C8.mk w8 f).block (hB9.block w8.heap.size (by simp))
  clear h8 s8 y8 hB8' hB9
  obtain ⟨g, hg⟩ : ∃ g, kcnt l = g := ⟨_, rfl⟩
  rw [hg] at HKC ⊢
  have hcg := (show g 7 ≤ n by rw [← hg, ← HL.out]; exact kcnt_le l 7)
  clear hg
  unfold kagg
  obtain ⟨ga, hga⟩ : ∃ g, w8.heap.size = g := ⟨_, rfl⟩
  rw [hga] at c9 ⊢
  clear hga
  have h10 := h9.alloc (.cells #[.int .i64 (g 0 : Nat), .int .i64 (g 1 : Nat), .int .i64 (g 2 : Nat), .int .i64 (g 3 : Nat), .int .i64 (g 4 : Nat), .int .i64 (g 5 : Nat), .int .i64 (g 6 : Nat), .int .i64 (g 7 : Nat)] 33)
  have s10 := s9.alloc (.cells #[.int .i64 (g 0 : Nat), .int .i64 (g 1 : Nat), .int .i64 (g 2 : Nat), .int .i64 (g 3 : Nat), .int .i64 (g 4 : Nat), .int .i64 (g 5 : Nat), .int .i64 (g 6 : Nat), .int .i64 (g 7 : Nat)] 33)
  have y10 := y9.alloc (.cells #[.int .i64 (g 0 : Nat), .int .i64 (g 1 : Nat), .int .i64 (g 2 : Nat), .int .i64 (g 3 : Nat), .int .i64 (g 4 : Nat), .int .i64 (g 5 : Nat), .int .i64 (g 6 : Nat), .int .i64 (g 7 : Nat)] 33)
  have hB10' := nxa hB9' (.cells #[.int .i64 (g 0 : Nat), .int .i64 (g 1 : Nat), .int .i64 (g 2 : Nat), .int .i64 (g 3 : Nat), .int .i64 (g 4 : Nat), .int .i64 (g 5 : Nat), .int .i64 (g 6 : Nat), .int .i64 (g 7 : Nat)] 33)
  have c10 := c9.block (Below.heap_alloc w9 (.cells #[.int .i64 (g 0 : Nat), .int .i64 (g 1 : Nat), .int .i64 (g 2 : Nat), .int .i64 (g 3 : Nat), .int .i64 (g 4 : Nat), .int .i64 (g 5 : Nat), .int .i64 (g 6 : Nat), .int .i64 (g 7 : Nat)] 33) ga c9.lt)
  have d10 := C8.mk w9 g
  obtain ⟨gb, hgb⟩ : ∃ g, w9.heap.size = g := ⟨_, rfl⟩
  rw [hgb] at d10
  clear h9 s9 y9 hB9' c9
  by_cases hq1 : q < 1
  · have e0 : q.toNat = 0 := by omega
    have tq1 : decide (1 ≤ q) = false := decide_eq_false (by omega)
    have ef : f 7 = g 7 := by have := HKC.out; rw [e0, Nat.div_zero] at this; omega
    have eX : X = n := by have := HXL.out; rw [e0, Nat.div_zero] at this; omega
    have tf1 : (((f 7 : Nat) : Int) == ((g 7 : Nat) : Int)) = true := by rw [beq_iff_eq, ef]
    have tX1 : ((X : Int) == (n : Int)) = true := by rw [beq_iff_eq, eX]
    clear ef eX e0
    go_wp2_with fail
    refine (can_ok A6 X c6 x _ s10 (by omega) HXW).mono ?_; rintro e w11 ⟨A11, c11, rfl, hO11, hB11⟩
    have h11 := h10.below hB11; have s11 := s10.below hB11; have y11 := y10.below hB11; have hB11' := nx hB10' hB11
    have c11' := c10.block (hB11.block ga c10.lt); have d11 := d10.block (hB11.block gb d10.lt)
    rw [HCA.out] at hO11
    have u11 := hO11.ss HYY.out
    clear h10 s10 y10 hB10' c10 d10 hO11 hB11
    go_wp2_with fail
    refine (same_yes A11 A7 X c11 c7 y _ u11 y11).mono ?_; rintro e w12 ⟨rfl, hB12⟩
    have h12 := h11.below hB12; have s12 := s11.below hB12; have hB12' := nx hB11' hB12
    have c12 := c11'.block (hB12.block ga c11'.lt); have d12 := d11.block (hB12.block gb d11.lt)
    clear h11 s11 y11 u11 hB11' c11' d11 hB12
    go_wp2_with fail
    refine (act_ok A6 X c6 x _ s12 (by omega) HXW).mono ?_; rintro e w13 ⟨A13, c13, rfl, hO13, hB13⟩
    have h13 := h12.below hB13; have hB13' := nx hB12' hB13
    have c13' := c12.block (hB13.block ga c12.lt); have d13 := d12.block (hB13.block gb d12.lt)
    rw [HAC.out] at hO13 ⊢
    have u13 := hO13.sl
    clear h12 s12 hB12' c12 d12 hO13 hB13
    go_wp2_with fail
    refine (act_ok A n c l _ h13 (by omega) hl).mono ?_; rintro e w14 ⟨A14, c14, rfl, hO14, hB14⟩
    have hB14' := nx hB13' hB14
    have c14' := c13'.block (hB14.block ga c13'.lt); have d14 := d13.block (hB14.block gb d13.lt)
    have v14 := hO14.sl
    have u14 := u13.below hB14
    clear h13 u13 hB13' c13' d13 hO14 hB14
    go_wp2_with fail
    refine (ints_yes A13 A14 _ c13 c14 (actL l) _ u14 v14).mono ?_; rintro e w15 ⟨rfl, hB15⟩
    have hB15' := nx hB14' hB15
    have cf := (c14'.block (hB15.block ga c14'.lt) 7 (by omega)).1
    have cg := (d14.block (hB15.block gb d14.lt) 7 (by omega)).1
    clear u14 v14 hB14' c14' d14 hB15
    go_wp2_with fail
    go_ret
    exact ⟨rfl, hB15'⟩
  · obtain ⟨m, rfl⟩ : ∃ m : Nat, q = m := ⟨q.toNat, by omega⟩
    have tq1 : decide ((1 : Int) ≤ (m : Int)) = true := decide_eq_true (by omega)
    have tq2 : ¬ ((m : Int) = 0) := by omega
    have tq3 : ((m : Int) == 0) = false := by rw [beq_eq_false_iff_ne]; exact tq2
    have kf := HKC.out
    have kX := HXL.out
    rw [Int.toNat_natCast] at kf kX
    have hE1 : n / m ≤ n := Nat.div_le_self n m
    have hE2 : (n : Int) / (m : Int) = ((n / m : Nat) : Int) := (Int.natCast_ediv n m).symm
    have hE3 : Int.tdiv (n : Int) (m : Int) = ((n / m : Nat) : Int) := (Int.ofNat_tdiv n m).symm
    obtain ⟨E, hE⟩ : ∃ E, n / m = E := ⟨_, rfl⟩
    rw [hE] at kf kX hE1 hE2 hE3
    have tf1 : (((f 7 : Nat) : Int) == ((g 7 : Nat) : Int) + (E : Int)) = true := by rw [beq_iff_eq, kf]; omega
    have tX1 : ((X : Int) == (n : Int) + (E : Int)) = true := by rw [beq_iff_eq, kX]; omega
    clear hE kf kX
    go_wp2_with fail
    refine (can_ok A6 X c6 x _ s10 (by omega) HXW).mono ?_; rintro e w11 ⟨A11, c11, rfl, hO11, hB11⟩
    have h11 := h10.below hB11; have s11 := s10.below hB11; have y11 := y10.below hB11; have hB11' := nx hB10' hB11
    have c11' := c10.block (hB11.block ga c10.lt); have d11 := d10.block (hB11.block gb d10.lt)
    rw [HCA.out] at hO11
    have u11 := hO11.ss HYY.out
    clear h10 s10 y10 hB10' c10 d10 hO11 hB11
    go_wp2_with fail
    refine (same_yes A11 A7 X c11 c7 y _ u11 y11).mono ?_; rintro e w12 ⟨rfl, hB12⟩
    have h12 := h11.below hB12; have s12 := s11.below hB12; have hB12' := nx hB11' hB12
    have c12 := c11'.block (hB12.block ga c11'.lt); have d12 := d11.block (hB12.block gb d11.lt)
    clear h11 s11 y11 u11 hB11' c11' d11 hB12
    go_wp2_with fail
    refine (act_ok A6 X c6 x _ s12 (by omega) HXW).mono ?_; rintro e w13 ⟨A13, c13, rfl, hO13, hB13⟩
    have h13 := h12.below hB13; have hB13' := nx hB12' hB13
    have c13' := c12.block (hB13.block ga c12.lt); have d13 := d12.block (hB13.block gb d12.lt)
    rw [HAC.out] at hO13 ⊢
    have u13 := hO13.sl
    clear h12 s12 hB12' c12 d12 hO13 hB13
    go_wp2_with fail
    refine (act_ok A n c l _ h13 (by omega) hl).mono ?_; rintro e w14 ⟨A14, c14, rfl, hO14, hB14⟩
    have hB14' := nx hB13' hB14
    have c14' := c13'.block (hB14.block ga c13'.lt); have d14 := d13.block (hB14.block gb d13.lt)
    have v14 := hO14.sl
    have u14 := u13.below hB14
    clear h13 u13 hB13' c13' d13 hO14 hB14
    go_wp2_with fail
    refine (ints_yes A13 A14 _ c13 c14 (actL l) _ u14 v14).mono ?_; rintro e w15 ⟨rfl, hB15⟩
    have hB15' := nx hB14' hB15
    have cf := (c14'.block (hB15.block ga c14'.lt) 7 (by omega)).1
    have cg := (d14.block (hB15.block gb d14.lt) 7 (by omega)).1
    clear u14 v14 hB14' c14' d14 hB15
    go_wp2_with fail
    go_ret
    exact ⟨rfl, hB15'⟩
end Go.Proofs.Ytejoiamdhjhjhaa
