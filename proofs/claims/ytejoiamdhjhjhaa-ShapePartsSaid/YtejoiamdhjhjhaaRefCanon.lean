/- The walk of the reference's Canon and Alike. -/
import Derived.Test.YtejoiamdhjhjhaaRefActors
namespace Go.Proofs.Ytejoiamdhjhjhaa
open Go.RowKit

theorem plc_pos {a : List Int} {x : Int} (h : x ∈ a) : plc a x = posF a x := by unfold plc posF; rw [if_pos h, if_pos h]
theorem tF_cases {l : List St} {a : List Int} (ha : actL l = a) {s : St} (hs : s ∈ l) :
    (nm s.d = [1] ∧ s.d ≠ 7 ∧ tF (posF a) s = ⟨s.d, plc a s.who, 0⟩) ∨ (nm s.d = [1, 2] ∧ s.d ≠ 7 ∧ tF (posF a) s = ⟨s.d, plc a s.who, plc a s.of⟩) ∨
    (nm s.d = [] ∧ s.d = 7 ∧ tF (posF a) s = ⟨s.d, 0, s.of⟩) ∨ (nm s.d = [] ∧ s.d ≠ 7 ∧ tF (posF a) s = ⟨s.d, 0, 0⟩) := by
  have hm : ∀ j ∈ nm s.d, fld s j ∈ a := fun j hj => by
    rw [← ha]; exact (mem_act l _).2 ⟨s, hs, (mem_who s _).2 ⟨j, hj, rfl⟩⟩
  rcases nm_cases s.d with ⟨h, h7⟩ | ⟨h, h7⟩ | h
  · refine .inl ⟨h, h7, ?_⟩
    rw [show plc a s.who = posF a s.who from plc_pos (hm 1 (by rw [h]; simp))]
    unfold tF; rw [if_neg h7]; unfold tJ; rw [h]; rfl
  · refine .inr (.inl ⟨h, h7, ?_⟩)
    rw [show plc a s.who = posF a s.who from plc_pos (hm 1 (by rw [h]; simp)), show plc a s.of = posF a s.of from plc_pos (hm 2 (by rw [h]; simp))]
    unfold tF; rw [if_neg h7]; unfold tJ; rw [h]; rfl
  · by_cases h7 : s.d = 7
    · exact .inr (.inr (.inl ⟨h, h7, by unfold tF; rw [if_pos h7]⟩))
    · exact .inr (.inr (.inr ⟨h, h7, by unfold tF; rw [if_neg h7]; unfold tJ; rw [h]; rfl⟩))
set_option maxRecDepth 100000 in
set_option maxHeartbeats 4000000 in
theorem rcan_ok (A : Option Addr) (n c : Nat) (l : List St) (w : World) (h : Ss w A n c l) (hn : n ≤ 1000) :
    Calls Try.prog 21 #[.slice A n c] w fun e w' => ∃ A' c', e = .returned (.slice A' n c') ∧ Ow w' w.heap.size 31 3 A' n c' (svs (canL l)) ∧ Below w.heap.size w w' := by
  have HL := Lib.hid h.len
  have H2 := Lib.hid (fun W hW => ract_ok A n c l W hW hn)
  go_enter Try.func21, Try.ntmps21
  go_wp2_with fail
  refine (H2.out _ h).mono ?_
  rintro e w1 ⟨A1, c1, rfl, hO1, hB1⟩
  have hS1 := hO1.sl
  have hs1 := h.below hB1
  have HB1 := Lib.hid hB1
  obtain ⟨a, ha⟩ : ∃ a, actL l = a := ⟨_, rfl⟩
  have HC : Hid (canL l = l.map (tF (posF a))) := Lib.hid (by rw [← ha]; rfl)
  rw [ha] at hS1 ⊢
  obtain ⟨N, hN⟩ : ∃ N, a.length = N := ⟨_, rfl⟩
  rw [hN] at hS1 ⊢
  have HA := Lib.hid ha
  have HS1 := Lib.hid hS1
  have Hs1 := Lib.hid hs1
  clear ha hN hO1 hS1 hs1 hB1 h H2
  go_wp2_with fail
  go_loopw [4, 14] (fun v i wr => ∃ (r : Nat) (A' : Option Addr) (c' : Nat), r ≤ n ∧ i = .int .i64 (r : Int) ∧ v = .slice A' r c' ∧ Ow wr w1.heap.size 31 3 A' r c' (svs ((l.take r).map (tF (posF a)))) ∧ Below w1.heap.size w1 wr) (fun _ i _ => n - (intOf i).toNat)
  case atStart => exact ⟨0, none, 0, Nat.zero_le _, rfl, rfl, Ow.nil _ _ _ _, Below.refl _ _⟩
  case round =>
    obtain ⟨r, A', c', hk, rfl, rfl, hO, hB⟩ := hrel
    by_cases hlt : r < n
    · obtain ⟨ad, s, rfl, h1, h2, h3, h4⟩ := (Hs1.out.below hB).at_ hlt
      have HT : Hid (svs ((l.take (r + 1)).map (tF (posF a))) = svs ((l.take r).map (tF (posF a))) ++ svs [tF (posF a) s]) := Lib.hid (by
        rw [List.take_add_one, h1, Option.toList_some, List.map_append, svs_append]; rfl)
      have HK := Lib.hid (tF_cases HA.out (List.mem_of_getElem? h1))
      have b1 := (B3.new wr s).alloc (.cells #[.int .i64 s.d, .int .i64 0, .int .i64 0] 31)
      have b2 := B3.new (wr.alloc (.cells #[.int .i64 s.d, .int .i64 s.who, .int .i64 s.of] 31)) ⟨s.d, 0, 0⟩
      have hw1 : Below wr.heap.size wr ((wr.alloc (.cells #[.int .i64 s.d, .int .i64 s.who, .int .i64 s.of] 31)).alloc (.cells #[.int .i64 s.d, .int .i64 0, .int .i64 0] 31)) :=
        nxa ((Below.refl _ wr).alloc (Nat.le_refl _) _) _
      rw [World.size_alloc] at b2
      have q0 := b1.c0; have q1 := b1.c1; have q2 := b1.c2
      clear h1
      go_wp2_with fail
      refine (names_ok s _).mono ?_
      rintro e w3 ⟨rfl, hB2⟩
      have hb1 := b1.below hB2 b1.lt
      have hb2 := b2.below hB2 b2.lt
      have hw3 := nx hw1 hB2
      have hS3 := HS1.out.below (nx hB hw3)
      obtain ⟨gb, hgb⟩ : ∃ g, wr.heap.size = g := ⟨_, rfl⟩
      have hle : wr.heap.size ≤ gb + 1 := by omega
      rw [hgb] at hb1 hb2 ⊢
      obtain ⟨t, ht⟩ : ∃ t, tF (posF a) s = t := ⟨_, rfl⟩
      rw [ht] at HT
      clear h2 h3 h4 b1 b2 q0 q1 q2 hw1 hB2 hgb
      have p0 := hb1.c0; have p1 := hb1.c1; have p2 := hb1.c2
      have t0 := hb2.c0; have t1 := hb2.c1; have t2 := hb2.c2
      have f1 := hb2.fz 1; have f2 := hb2.fz 2
      rcases HK.out with ⟨hn1, h7, hE⟩ | ⟨hn2, h7, hE⟩ | ⟨hn0, h7, hE⟩ | ⟨hn0, h7, hE⟩
      · have e1 : nm1 s.d = true := by rw [nm1_of hn1]; rfl
        have e2 : nm2 s.d = false := by rw [nm2_of hn1]; rfl
        have t7 : (s.d == 7) = false := by rw [beq_eq_false_iff_ne]; exact h7
        rw [e1, e2]
        obtain ⟨z, hz⟩ : ∃ z, plc a s.who = z := ⟨_, rfl⟩
        have HPl := Lib.hid (fun W hW => place_ok A1 N c1 a s.who W hW)
        rw [hz] at HPl hE
        clear hn1 e1 e2 h7
        go_wp2_with fail
        refine (HPl.out _ hS3).mono ?_
        rintro e w4 ⟨rfl, rfl⟩
        have d3 := hb2.put (i := 1) (.inl rfl) z
        have hx0 := (hb1.far (a := ⟨gb + 1, 1, none⟩) (by simp) (.int .i64 z)).c0
        have hst : setF ⟨s.d, 0, 0⟩ 1 z = t := by rw [← ht, hE]; rfl
        rw [hst] at d3
        have hwX := hw3.setCell (p := ⟨gb + 1, 1, none⟩) hle (.int .i64 z)
        have q0 := d3.c0; have q1 := d3.c1; have q2 := d3.c2
        have hOX := hO.below hwX
        have hBX := nx hB hwX
        have hszX := hBX.size
        clear HPl hz hE hw3 hS3 hb1 hb2 hst ht hO hB
        go_wp2_with (at_builtin; refine wpList_app (o := ⟨some 47, _, _, _, _, _⟩) E22 rfl rfl rfl (hOX.alloc _) rfl (lies_sv _ t _ (by simp)) rfl (svs_one [t]) (by unfold maxLen; omega) (by omega) (Nat.le_trans hszX (by simp)) ?_; intro A8 c8 w8 hO8 hG8 hB8)
        go_roundw
        case rel => exact ⟨r + 1, A8, c8, by omega, by go_num, rfl, by rw [HT.out]; exact hO8, (hBX.alloc hBX.size _).trans (hB8.mono (Nat.le_refl _))⟩
        case measure => simp [intOf]; omega
      · have e1 : nm1 s.d = true := by rw [nm1_of hn2]; rfl
        have e2 : nm2 s.d = true := by rw [nm2_of hn2]; rfl
        have t7 : (s.d == 7) = false := by rw [beq_eq_false_iff_ne]; exact h7
        rw [e1, e2]
        obtain ⟨z, hz⟩ : ∃ z, plc a s.who = z := ⟨_, rfl⟩
        have HPl := Lib.hid (fun W hW => place_ok A1 N c1 a s.who W hW)
        obtain ⟨z2, hz2⟩ : ∃ z, plc a s.of = z := ⟨_, rfl⟩
        have HPl2 := Lib.hid (fun W hW => place_ok A1 N c1 a s.of W hW)
        rw [hz] at HPl hE
        rw [hz2] at HPl2 hE
        clear hn2 e1 e2 h7
        go_wp2_with fail
        refine (HPl.out _ hS3).mono ?_
        rintro e w4 ⟨rfl, rfl⟩
        have d2 := hb2.put (i := 1) (.inl rfl) z
        have hx := hb1.far (a := ⟨gb + 1, 1, none⟩) (by simp) (.int .i64 z)
        have hwY := hw3.setCell (p := ⟨gb + 1, 1, none⟩) hle (.int .i64 z)
        have hS4 := HS1.out.below (nx hB hwY)
        have hx2 := hx.c2
        go_wp2_with fail
        refine (HPl2.out _ hS4).mono ?_
        rintro e w5 ⟨rfl, rfl⟩
        have d3 := d2.put (i := 2) (.inr rfl) z2
        have y1 := d2.c2
        have y2 := d2.fz 2
        have hx0 := (hx.far (a := ⟨gb + 1, 2, none⟩) (by simp) (.int .i64 z2)).c0
        have hst : setF (setF ⟨s.d, 0, 0⟩ 1 z) 2 z2 = t := by rw [← ht, hE]; rfl
        rw [hst] at d3
        have hwX := hwY.setCell (p := ⟨gb + 1, 2, none⟩) hle (.int .i64 z2)
        have q0 := d3.c0; have q1 := d3.c1; have q2 := d3.c2
        have hOX := hO.below hwX
        have hBX := nx hB hwX
        have hszX := hBX.size
        clear HPl hz HPl2 hz2 hE hw3 hS3 hS4 hb1 hb2 d2 hx hwY hst ht hO hB
        go_wp2_with (at_builtin; refine wpList_app (o := ⟨some 47, _, _, _, _, _⟩) E22 rfl rfl rfl (hOX.alloc _) rfl (lies_sv _ t _ (by simp)) rfl (svs_one [t]) (by unfold maxLen; omega) (by omega) (Nat.le_trans hszX (by simp)) ?_; intro A8 c8 w8 hO8 hG8 hB8)
        go_roundw
        case rel => exact ⟨r + 1, A8, c8, by omega, by go_num, rfl, by rw [HT.out]; exact hO8, (hBX.alloc hBX.size _).trans (hB8.mono (Nat.le_refl _))⟩
        case measure => simp [intOf]; omega
      · have e1 : nm1 s.d = false := by rw [nm1_of hn0]; rfl
        have e2 : nm2 s.d = false := by rw [nm2_of hn0]; rfl
        have t7 : (s.d == 7) = true := by rw [beq_iff_eq]; exact h7
        rw [e1, e2]
        clear hn0 e1 e2 h7
        have d3 := hb2.put (i := 2) (.inr rfl) s.of
        have hst : setF ⟨s.d, 0, 0⟩ 2 s.of = t := by rw [← ht, hE]; rfl
        rw [hst] at d3
        have hwX := hw3.setCell (p := ⟨gb + 1, 2, none⟩) hle (.int .i64 s.of)
        have q0 := d3.c0; have q1 := d3.c1; have q2 := d3.c2
        have hOX := hO.below hwX
        have hBX := nx hB hwX
        have hszX := hBX.size
        clear hE hw3 hS3 hb1 hb2 hst ht hO hB
        go_wp2_with (at_builtin; refine wpList_app (o := ⟨some 47, _, _, _, _, _⟩) E22 rfl rfl rfl (hOX.alloc _) rfl (lies_sv _ t _ (by simp)) rfl (svs_one [t]) (by unfold maxLen; omega) (by omega) (Nat.le_trans hszX (by simp)) ?_; intro A8 c8 w8 hO8 hG8 hB8)
        go_roundw
        case rel => exact ⟨r + 1, A8, c8, by omega, by go_num, rfl, by rw [HT.out]; exact hO8, (hBX.alloc hBX.size _).trans (hB8.mono (Nat.le_refl _))⟩
        case measure => simp [intOf]; omega
      · have e1 : nm1 s.d = false := by rw [nm1_of hn0]; rfl
        have e2 : nm2 s.d = false := by rw [nm2_of hn0]; rfl
        have t7 : (s.d == 7) = false := by rw [beq_eq_false_iff_ne]; exact h7
        rw [e1, e2]
        clear hn0 e1 e2 h7
        have d3 := hb2
        have hst : (⟨s.d, 0, 0⟩ : St) = t := by rw [← ht, hE]
        rw [hst] at d3
        have hwX := hw3
        have q0 := d3.c0; have q1 := d3.c1; have q2 := d3.c2
        have hOX := hO.below hwX
        have hBX := nx hB hwX
        have hszX := hBX.size
        clear hE hw3 hS3 hb1 hb2 t0 t1 t2 hst ht hO hB
        go_wp2_with (at_builtin; refine wpList_app (o := ⟨some 47, _, _, _, _, _⟩) E22 rfl rfl rfl (hOX.alloc _) rfl (lies_sv _ t _ (by simp)) rfl (svs_one [t]) (by unfold maxLen; omega) (by omega) (Nat.le_trans hszX (by simp)) ?_; intro A8 c8 w8 hO8 hG8 hB8)
        go_roundw
        case rel => exact ⟨r + 1, A8, c8, by omega, by go_num, rfl, by rw [HT.out]; exact hO8, (hBX.alloc hBX.size _).trans (hB8.mono (Nat.le_refl _))⟩
        case measure => simp [intOf]; omega
    · obtain rfl : r = n := by omega
      have hT : l.take r = l := by rw [← HL.out, List.take_length]
      rw [hT] at hO
      clear hT
      go_wp2_with fail
      go_ret
      exact ⟨A', c', rfl, by rw [HC.out]; exact hO.mono HB1.out.size, nx HB1.out hB⟩
end Go.Proofs.Ytejoiamdhjhjhaa
