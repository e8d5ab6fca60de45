/- The walk of the reference's Actors. -/
import Derived.Test.YtejoiamdhjhjhaaNames
namespace Go.Proofs.Ytejoiamdhjhjhaa
open Go.RowKit

theorem nm1_of {d : Int} {l : List Nat} (h : nm d = l) : nm1 d = decide (1 ∈ l) := by unfold nm1; rw [h]
theorem nm2_of {d : Int} {l : List Nat} (h : nm d = l) : nm2 d = decide (2 ∈ l) := by unfold nm2; rw [h]
theorem add1_in {o : List Int} {x : Int} (h : x ∈ o) : add1 o x = o := if_pos h
theorem add1_no {o : List Int} {x : Int} (h : x ∉ o) : add1 o x = o ++ [x] := if_neg h
theorem addS_0 (o : List Int) {s : St} (h : nm s.d = []) : addS o s = o := by unfold addS who; rw [h]; rfl
theorem addS_1 (o : List Int) {s : St} (h : nm s.d = [1]) : addS o s = add1 o s.who := by unfold addS who; rw [h]; rfl
theorem addS_2 (o : List Int) {s : St} (h : nm s.d = [1, 2]) : addS o s = add1 (add1 o s.who) s.of := by unfold addS who; rw [h]; rfl
theorem B3.grownRow {w w' : World} {g base n c : Nat} {A : Option Addr} {xs : List Value} {s : St} {o : Obj} (h : B3 w g s) (hO : Ow (w.alloc o) base 3 1 A n c xs) (hG : (w.alloc o).grownBy w' (Value.slice A n c).ownBlock) : B3 w' g s :=
  h.block ((hG.block _ (h.tg.alloc o).lt ((h.tg.alloc o).ne_row hO (by decide))).trans (Below.heap_alloc w o _ h.tg.lt))
set_option maxRecDepth 100000 in
set_option maxHeartbeats 4000000 in
theorem ract_ok (A : Option Addr) (n c : Nat) (l : List St) (w : World) (h : Ss w A n c l) (hn : n ≤ 1000) :
    Calls Try.prog 22 #[.slice A n c] w fun e w' => ∃ A' c', e = .returned (.slice A' (actL l).length c') ∧ Ow w' w.heap.size 3 1 A' (actL l).length c' (iv (actL l)) ∧ Below w.heap.size w w' := by
  have HL := Lib.hid h.len
  go_enter Try.func22, Try.ntmps22
  go_wp2_with fail
  go_loopw [3, 10] (fun v i wr => ∃ (k : Nat) (A' : Option Addr) (c' : Nat), k ≤ n ∧ i = .int .i64 (k : Int) ∧ v = .slice A' (actL (l.take k)).length c' ∧ Ow wr w.heap.size 3 1 A' (actL (l.take k)).length c' (iv (actL (l.take k))) ∧ Below w.heap.size w wr) (fun _ i _ => n - (intOf i).toNat)
  case atStart => exact ⟨0, none, 0, Nat.zero_le _, rfl, rfl, Ow.nil _ _ _ _, Below.refl _ w⟩
  case round =>
    obtain ⟨k, A', c', hk, rfl, rfl, hO, hB⟩ := hrel
    by_cases hlt : k < n
    · obtain ⟨ad, s, rfl, h1, h2, h3, h4⟩ := (h.below hB).at_ hlt
      have HT := Lib.hid (act_take l k s h1)
      have hlen := act_len (l.take k)
      rw [List.length_take, HL.out, Nat.min_eq_left hk] at hlen
      obtain ⟨o, ho⟩ : ∃ o, actL (l.take k) = o := ⟨_, rfl⟩
      rw [ho] at hO HT hlen ⊢
      have hb := B3.new wr s
      have q0 := hb.c0; have q1 := hb.c1; have q2 := hb.c2
      have hO1 := hO.alloc (.cells #[.int .i64 s.d, .int .i64 s.who, .int .i64 s.of] 31)
      have hB1 := nxa hB (.cells #[.int .i64 s.d, .int .i64 s.who, .int .i64 s.of] 31)
      clear ho h1 hO hB
      go_wp2_with fail
      refine (names_ok s _).mono ?_
      rintro e w2 ⟨rfl, hB2⟩
      have hO2 := hO1.below hB2
      have hb2 := hb.below hB2 hb.lt
      have hB2' := nx hB1 hB2
      obtain ⟨gb, hgb⟩ : ∃ g, wr.heap.size = g := ⟨_, rfl⟩
      rw [hgb] at hb2 ⊢
      have p1 := hb2.c1; have p2 := hb2.c2
      clear h2 h3 h4 hb q0 q1 q2 hO1 hB1 hB2 hgb
      rcases nm_cases' s.d with hn1 | hn2 | hn0
      · have e1 : nm1 s.d = true := by rw [nm1_of hn1]; rfl
        have e2 : nm2 s.d = false := by rw [nm2_of hn1]; rfl
        have HS : Hid (addS o s = add1 o s.who) := Lib.hid (addS_1 o hn1)
        rw [e1, e2]
        clear hn1 e1 e2
        have hI := hO2.sl
        go_wp2_with fail
        refine (in_ok _ _ _ o s.who _ hI).mono ?_; rintro e w3 ⟨rfl, rfl⟩
        clear hI
        by_cases hw : s.who ∈ o
        · rw [decide_eq_true hw]
          have HW : Hid (add1 o s.who = o) := Lib.hid (add1_in hw)
          clear hw
          go_wp2_with fail
          go_roundw
          case rel =>
            have HE : Hid (actL (l.take (k + 1)) = o) := Lib.hid (by rw [HT.out]; rw [HS.out, HW.out])
            exact ⟨k + 1, A', c', by omega, by go_num, by rw [HE.out] <;> simp, by rw [HE.out]; first | exact hO2 | (rw [List.length_append]; exact hO2) | (rw [iv_snoc, List.length_append, List.length_append]; exact hO2) | (rw [iv_snoc, List.length_append]; exact hO2), hB2'⟩
          case measure => simp [intOf]; omega
        · rw [decide_eq_false hw]
          have HW : Hid (add1 o s.who = o ++ [s.who]) := Lib.hid (add1_no hw)
          clear hw
          go_wp2_with (at_builtin; refine wpList_app (o := ⟨some 31, _, _, _, _, _⟩) E25 rfl rfl rfl (hO2.alloc _) rfl (lies_new w2 _ 3) rfl (by simp [Value.oneCell']) (by unfold maxLen; omega) (by omega) (Nat.le_trans hB2'.size (by simp)) ?_; intro A4 c4 w4 hO4 hG4 hB4)
          go_roundw
          case rel =>
            have HE : Hid (actL (l.take (k + 1)) = o ++ [s.who]) := Lib.hid (by rw [HT.out]; rw [HS.out, HW.out])
            exact ⟨k + 1, A4, c4, by omega, by go_num, by rw [HE.out] <;> simp, by rw [HE.out]; first | exact hO4 | (rw [List.length_append]; exact hO4) | (rw [iv_snoc, List.length_append, List.length_append]; exact hO4) | (rw [iv_snoc, List.length_append]; exact hO4), (hB2'.alloc hB2'.size _).trans (hB4.mono (Nat.le_refl _))⟩
          case measure => simp [intOf]; omega
      · have e1 : nm1 s.d = true := by rw [nm1_of hn2]; rfl
        have e2 : nm2 s.d = true := by rw [nm2_of hn2]; rfl
        have HS : Hid (addS o s = add1 (add1 o s.who) s.of) := Lib.hid (addS_2 o hn2)
        rw [e1, e2]
        clear hn2 e1 e2
        have hI := hO2.sl
        go_wp2_with fail
        refine (in_ok _ _ _ o s.who _ hI).mono ?_; rintro e w3 ⟨rfl, rfl⟩
        clear hI
        by_cases hw : s.who ∈ o
        · rw [decide_eq_true hw]
          have HW : Hid (add1 o s.who = o) := Lib.hid (add1_in hw)
          clear hw
          have hI := hO2.sl
          go_wp2_with fail
          refine (in_ok _ _ _ o s.of _ hI).mono ?_; rintro e w4 ⟨rfl, rfl⟩
          clear hI
          by_cases hf : s.of ∈ o
          · rw [decide_eq_true hf]
            have HF : Hid (add1 o s.of = o) := Lib.hid (add1_in hf)
            clear hf
            go_wp2_with fail
            go_roundw
            case rel =>
              have HE : Hid (actL (l.take (k + 1)) = o) := Lib.hid (by rw [HT.out]; rw [HS.out, HW.out, HF.out])
              exact ⟨k + 1, A', c', by omega, by go_num, by rw [HE.out] <;> simp, by rw [HE.out]; first | exact hO2 | (rw [List.length_append]; exact hO2) | (rw [iv_snoc, List.length_append, List.length_append]; exact hO2) | (rw [iv_snoc, List.length_append]; exact hO2), hB2'⟩
            case measure => simp [intOf]; omega
          · rw [decide_eq_false hf]
            have HF : Hid (add1 o s.of = o ++ [s.of]) := Lib.hid (add1_no hf)
            clear hf
            go_wp2_with (at_builtin; refine wpList_app (o := ⟨some 44, _, _, _, _, _⟩) E25 rfl rfl rfl (hO2.alloc _) rfl (lies_new w2 _ 3) rfl (by simp [Value.oneCell']) (by unfold maxLen; omega) (by omega) (Nat.le_trans hB2'.size (by simp)) ?_; intro A5 c5 w5 hO5 hG5 hB5)
            go_roundw
            case rel =>
              have HE : Hid (actL (l.take (k + 1)) = o ++ [s.of]) := Lib.hid (by rw [HT.out]; rw [HS.out, HW.out, HF.out])
              exact ⟨k + 1, A5, c5, by omega, by go_num, by rw [HE.out] <;> simp, by rw [HE.out]; first | exact hO5 | (rw [List.length_append]; exact hO5) | (rw [iv_snoc, List.length_append, List.length_append]; exact hO5) | (rw [iv_snoc, List.length_append]; exact hO5), (hB2'.alloc hB2'.size _).trans (hB5.mono (Nat.le_refl _))⟩
            case measure => simp [intOf]; omega
        · rw [decide_eq_false hw]
          have HW : Hid (add1 o s.who = o ++ [s.who]) := Lib.hid (add1_no hw)
          clear hw
          go_wp2_with (at_builtin; refine wpList_app (o := ⟨some 31, _, _, _, _, _⟩) E25 rfl rfl rfl (hO2.alloc _) rfl (lies_new w2 _ 3) rfl (by simp [Value.oneCell']) (by unfold maxLen; omega) (by omega) (Nat.le_trans hB2'.size (by simp)) ?_; intro A4 c4 w4 hO4 hG4 hB4; have hb4 := hb2.grownRow (hO2.alloc _) hG4; have p41 := hb4.c1; have p42 := hb4.c2)
          have hB4' := (hB2'.alloc hB2'.size _).trans (hB4.mono (Nat.le_refl _))
          rw [← iv_snoc] at hO4
          have hI := hO4.sl
          skip
          refine (in_ok _ _ _ (o ++ [s.who]) s.of _ hI).mono ?_; rintro e w5 ⟨rfl, rfl⟩
          clear hI
          by_cases hf : s.of ∈ (o ++ [s.who])
          · rw [decide_eq_true hf]
            have HF : Hid (add1 (o ++ [s.who]) s.of = (o ++ [s.who])) := Lib.hid (add1_in hf)
            clear hf
            go_wp2_with fail
            go_roundw
            case rel =>
              have HE : Hid (actL (l.take (k + 1)) = (o ++ [s.who])) := Lib.hid (by rw [HT.out]; rw [HS.out, HW.out, HF.out])
              exact ⟨k + 1, A4, c4, by omega, by go_num, by rw [HE.out] <;> simp, by rw [HE.out]; first | exact hO4 | (rw [List.length_append]; exact hO4) | (rw [iv_snoc, List.length_append, List.length_append]; exact hO4) | (rw [iv_snoc, List.length_append]; exact hO4), hB4'⟩
            case measure => simp [intOf]; omega
          · rw [decide_eq_false hf]
            have HF : Hid (add1 (o ++ [s.who]) s.of = (o ++ [s.who]) ++ [s.of]) := Lib.hid (add1_no hf)
            clear hf
            go_wp2_with (at_builtin; refine wpList_app (o := ⟨some 44, _, _, _, _, _⟩) E25 rfl rfl rfl (hO4.alloc _) rfl (lies_new w4 _ 3) rfl (by simp [Value.oneCell']) (by unfold maxLen; omega) (by omega) (Nat.le_trans hB4'.size (by simp)) ?_; intro A6 c6 w6 hO6 hG6 hB6)
            go_roundw
            case rel =>
              have HE : Hid (actL (l.take (k + 1)) = (o ++ [s.who]) ++ [s.of]) := Lib.hid (by rw [HT.out]; rw [HS.out, HW.out, HF.out])
              exact ⟨k + 1, A6, c6, by omega, by go_num, by rw [HE.out] <;> simp, by rw [HE.out]; first | exact hO6 | (rw [List.length_append]; exact hO6) | (rw [iv_snoc, List.length_append, List.length_append]; exact hO6) | (rw [iv_snoc, List.length_append]; exact hO6), (hB4'.alloc hB4'.size _).trans (hB6.mono (Nat.le_refl _))⟩
            case measure => simp [intOf]; omega
      · have e1 : nm1 s.d = false := by rw [nm1_of hn0]; rfl
        have e2 : nm2 s.d = false := by rw [nm2_of hn0]; rfl
        have HS : Hid (addS o s = o) := Lib.hid (addS_0 o hn0)
        rw [e1, e2]
        clear hn0 e1 e2
        go_wp2_with fail
        go_roundw
        case rel =>
          have HE : Hid (actL (l.take (k + 1)) = o) := Lib.hid (by rw [HT.out]; exact HS.out)
          exact ⟨k + 1, A', c', by omega, by go_num, by rw [HE.out] <;> simp, by rw [HE.out]; first | exact hO2 | (rw [List.length_append]; exact hO2) | (rw [iv_snoc, List.length_append, List.length_append]; exact hO2) | (rw [iv_snoc, List.length_append]; exact hO2), hB2'⟩
        case measure => simp [intOf]; omega

    · obtain rfl : k = n := by omega
      have HA : Hid (l.take k = l) := Lib.hid (by rw [← HL.out, List.take_length])
      rw [HA.out] at hO ⊢
      go_wp2_with fail
      go_ret
      exact ⟨A', c', rfl, hO, hB⟩
end Go.Proofs.Ytejoiamdhjhjhaa
