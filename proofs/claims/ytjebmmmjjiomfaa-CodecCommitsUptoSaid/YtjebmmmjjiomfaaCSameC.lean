/- The walk of the reference's SameCommit. -/
import Derived.Test.YtjebmmmjjiomfaaCBigC
namespace Go.Proofs.Ytjebmmmjjiomfaa
open Go.RowKit

theorem ends_any {α : Type} {l l' : List α} {n : Nat} (h1 : l.length = n) (h2 : l'.length = n) (h : ∀ i, i < n → l[i]? = l'[i]?) : l = l' := List.ext_getElem? fun i => by
  by_cases e : i < n
  · exact h i e
  · rw [List.getElem?_eq_none (by omega), List.getElem?_eq_none (by omega)]
set_option maxRecDepth 100000 in
set_option maxHeartbeats 16000000 in
theorem samecommit_any (x y : CM) (P Q : CP) (w : World) (hM : CMem w x P) (hN : CMem w y Q) :
    Calls Try.prog 47 #[cv x P, cv y Q] w fun e w' => e = .returned (.bool (decide (x = y))) ∧ Below w.heap.size w w' := by
  obtain ⟨pA, pn, pc, lA, ln, lc, nA, nn, nc⟩ := P
  obtain ⟨qA, qn, qc, mA, mn, mc, oA, on, oc⟩ := Q
  obtain ⟨a0, a1, a2, a3, a4, a5, a6, a7⟩ := x
  obtain ⟨b0, b1, b2, b3, b4, b5, b6, b7⟩ := y
  obtain ⟨hp, hu, hn⟩ := hM
  obtain ⟨hq, hv, ho⟩ := hN
  dsimp only at hp hu hn hq hv ho
  have ptop := hp.top; have pcap := hp.cap; have ntop := hn.top; have ncap := hn.cap; unfold maxLen at ptop ntop
  have qcap := hq.cap; have ocap := ho.cap
  have HLp := Lib.hid hp.len; have HLn := Lib.hid hn.len; have HLq := Lib.hid hq.len; have HLo := Lib.hid ho.len
  obtain ⟨g, hg⟩ : ∃ g, w.heap.size = g := ⟨_, rfl⟩
  obtain ⟨wb, hwb⟩ : ∃ wb, (w.alloc (.cells (cc ⟨a0, a1, a2, a3, a4, a5, a6, a7⟩ ⟨pA, pn, pc, lA, ln, lc, nA, nn, nc⟩) 72)).alloc (.cells (cc ⟨b0, b1, b2, b3, b4, b5, b6, b7⟩ ⟨qA, qn, qc, mA, mn, mc, oA, on, oc⟩) 72) = wb := ⟨_, rfl⟩
  have hBb : Below w.heap.size w wb := by rw [← hwb]; exact nxa (nxa (Below.refl _ _) _) _
  have k0 : wb.heap[g]? = some (.cells (cc ⟨a0, a1, a2, a3, a4, a5, a6, a7⟩ ⟨pA, pn, pc, lA, ln, lc, nA, nn, nc⟩) 72) := by
    rw [← hwb, Below.heap_alloc _ _ _ (by simp; omega), ← hg]; exact heap_alloc_new _ _
  have k1 : wb.heap[g + 1]? = some (.cells (cc ⟨b0, b1, b2, b3, b4, b5, b6, b7⟩ ⟨qA, qn, qc, mA, mn, mc, oA, on, oc⟩) 72) := by
    have := heap_alloc_new (w.alloc (.cells (cc ⟨a0, a1, a2, a3, a4, a5, a6, a7⟩ ⟨pA, pn, pc, lA, ln, lc, nA, nn, nc⟩) 72)) (.cells (cc ⟨b0, b1, b2, b3, b4, b5, b6, b7⟩ ⟨qA, qn, qc, mA, mn, mc, oA, on, oc⟩) 72)
    rw [← hwb]
    rwa [show (w.alloc (.cells (cc ⟨a0, a1, a2, a3, a4, a5, a6, a7⟩ ⟨pA, pn, pc, lA, ln, lc, nA, nn, nc⟩) 72)).heap.size = g + 1 by simp [hg]] at this
  have HC := Lib.hid (sameNode_any lA mA ln mn lc mc a4 b4 wb (hu.below hBb) (hv.below hBb))
  have HWB := Lib.hid hwb; have HB := Lib.hid hBb; have K0 := Lib.hid k0; have K1 := Lib.hid k1
  have HG0 : Hid (g + 1 < wb.heap.size) := Lib.hid (Array.getElem?_eq_some_iff.1 k1).1
  have HP := Lib.hid (hp.keep (At10.below hBb)); have HQ := Lib.hid (hq.keep (At10.below hBb)); have HN := Lib.hid (hn.keep (At2.below hBb)); have HO := Lib.hid (ho.keep (At2.below hBb))
  unfold nv at HC
  unfold cv
  clear hwb hBb k0 k1 hp hu hn hq hv ho
  by_cases e0 : a0 = b0
  case neg =>
    have HD : Hid (decide ((⟨a0, a1, a2, a3, a4, a5, a6, a7⟩ : CM) = ⟨b0, b1, b2, b3, b4, b5, b6, b7⟩) = false) := Lib.hid (decide_eq_false (fun e => e0 (congrArg CM.by_ e)))
    rw [HD.out]
    have t : (a0 != b0) = true := by rw [bne_iff_ne]; exact e0
    have t2 : (a0 == b0) = false := by rw [beq_eq_false_iff_ne]; exact e0
    clear e0
    go_enter Try.func47, Try.ntmps47
    go_wp2_with fail
    go_ret
    exact ⟨rfl, by rw [HWB.out]; exact HB.out⟩
  subst e0
  by_cases e1 : a1 = b1
  case neg =>
    have HD : Hid (decide ((⟨a0, a1, a2, a3, a4, a5, a6, a7⟩ : CM) = ⟨a0, b1, b2, b3, b4, b5, b6, b7⟩) = false) := Lib.hid (decide_eq_false (fun e => e1 (congrArg CM.epoch e)))
    rw [HD.out]
    have t : (a1 != b1) = true := by rw [bne_iff_ne]; exact e1
    have t2 : (a1 == b1) = false := by rw [beq_eq_false_iff_ne]; exact e1
    clear e1
    go_enter Try.func47, Try.ntmps47
    go_wp2_with fail
    go_ret
    exact ⟨rfl, by rw [HWB.out]; exact HB.out⟩
  subst e1
  by_cases e2 : pn = qn
  case neg =>
    have HD : Hid (decide ((⟨a0, a1, a2, a3, a4, a5, a6, a7⟩ : CM) = ⟨a0, a1, b2, b3, b4, b5, b6, b7⟩) = false) := Lib.hid (decide_eq_false (fun e => e2 (by rw [← HLp.out, ← HLq.out]; exact congrArg (fun c : CM => c.props.length) e)))
    rw [HD.out]
    have t : ((pn : Int) != (qn : Int)) = true := by rw [bne_iff_ne]; omega
    clear e2
    go_enter Try.func47, Try.ntmps47
    go_wp2_with fail
    go_ret
    exact ⟨rfl, by rw [HWB.out]; exact HB.out⟩
  subst e2
  have t2 : ((pn : Int) != (pn : Int)) = false := by simp
  by_cases e3 : a3 = b3
  case neg =>
    have HD : Hid (decide ((⟨a0, a1, a2, a3, a4, a5, a6, a7⟩ : CM) = ⟨a0, a1, b2, b3, b4, b5, b6, b7⟩) = false) := Lib.hid (decide_eq_false (fun e => e3 (congrArg CM.has e)))
    rw [HD.out]
    have t : (a3 != b3) = true := by rw [bne_iff_ne]; exact e3
    have t2 : (a3 == b3) = false := by rw [beq_eq_false_iff_ne]; exact e3
    clear e3
    go_enter Try.func47, Try.ntmps47
    go_wp2_with fail
    go_ret
    exact ⟨rfl, by rw [HWB.out]; exact HB.out⟩
  subst e3
  by_cases e4 : a4 = b4
  case neg =>
    have HD : Hid (decide ((⟨a0, a1, a2, a3, a4, a5, a6, a7⟩ : CM) = ⟨a0, a1, b2, a3, b4, b5, b6, b7⟩) = false) := Lib.hid (decide_eq_false (fun e => e4 (congrArg CM.leaf e)))
    rw [HD.out]
    rw [sameN_no e4] at HC
    clear e4
    go_enter Try.func47, Try.ntmps47
    go_wp2_with (go_at_call 70; rw [HWB.out]; refine HC.out.mono ?_; rintro e w1 ⟨rfl, hB1⟩; have m0 := (hB1.block g (by have := HG0.out; omega)).trans K0.out; have m1 := (hB1.block (g + 1) HG0.out).trans K1.out; have g2 := cell_of m0 2; have g10 := cell_of m0 10; have g11 := cell_of m0 11; have g12 := cell_of m0 12; have d10 := cell_of m1 10; have d11 := cell_of m1 11; have d12 := cell_of m1 12; clear m0 m1)
    go_ret
    exact ⟨rfl, nx HB.out hB1⟩
  rw [sameN_yes e4] at HC
  subst e4
  by_cases e5 : nn = on
  case neg =>
    have HD : Hid (decide ((⟨a0, a1, a2, a3, a4, a5, a6, a7⟩ : CM) = ⟨a0, a1, b2, a3, a4, b5, b6, b7⟩) = false) := Lib.hid (decide_eq_false (fun e => e5 (by rw [← HLn.out, ← HLo.out]; exact congrArg (fun c : CM => c.nodes.length) e)))
    rw [HD.out]
    have t : ((nn : Int) != (on : Int)) = true := by rw [bne_iff_ne]; omega
    clear e5
    go_enter Try.func47, Try.ntmps47
    go_wp2_with (go_at_call 70; rw [HWB.out]; refine HC.out.mono ?_; rintro e w1 ⟨rfl, hB1⟩; have m0 := (hB1.block g (by have := HG0.out; omega)).trans K0.out; have m1 := (hB1.block (g + 1) HG0.out).trans K1.out; have g2 := cell_of m0 2; have g10 := cell_of m0 10; have g11 := cell_of m0 11; have g12 := cell_of m0 12; have d10 := cell_of m1 10; have d11 := cell_of m1 11; have d12 := cell_of m1 12; clear m0 m1)
    go_ret
    exact ⟨rfl, nx HB.out hB1⟩
  subst e5
  have t5 : ((nn : Int) != (nn : Int)) = false := by simp
  by_cases e6 : a6 = b6
  case neg =>
    have HD : Hid (decide ((⟨a0, a1, a2, a3, a4, a5, a6, a7⟩ : CM) = ⟨a0, a1, b2, a3, a4, b5, b6, b7⟩) = false) := Lib.hid (decide_eq_false (fun e => e6 (congrArg CM.sig e)))
    rw [HD.out]
    have t : (a6 != b6) = true := by rw [bne_iff_ne]; exact e6
    have t2 : (a6 == b6) = false := by rw [beq_eq_false_iff_ne]; exact e6
    clear e6
    go_enter Try.func47, Try.ntmps47
    go_wp2_with (go_at_call 70; rw [HWB.out]; refine HC.out.mono ?_; rintro e w1 ⟨rfl, hB1⟩; have m0 := (hB1.block g (by have := HG0.out; omega)).trans K0.out; have m1 := (hB1.block (g + 1) HG0.out).trans K1.out; have g2 := cell_of m0 2; have g10 := cell_of m0 10; have g11 := cell_of m0 11; have g12 := cell_of m0 12; have d10 := cell_of m1 10; have d11 := cell_of m1 11; have d12 := cell_of m1 12; clear m0 m1)
    go_ret
    exact ⟨rfl, nx HB.out hB1⟩
  subst e6
  by_cases e7 : a7 = b7
  case neg =>
    have HD : Hid (decide ((⟨a0, a1, a2, a3, a4, a5, a6, a7⟩ : CM) = ⟨a0, a1, b2, a3, a4, b5, a6, b7⟩) = false) := Lib.hid (decide_eq_false (fun e => e7 (congrArg CM.tag e)))
    rw [HD.out]
    have t : (a7 != b7) = true := by rw [bne_iff_ne]; exact e7
    have t2 : (a7 == b7) = false := by rw [beq_eq_false_iff_ne]; exact e7
    clear e7
    go_enter Try.func47, Try.ntmps47
    go_wp2_with (go_at_call 70; rw [HWB.out]; refine HC.out.mono ?_; rintro e w1 ⟨rfl, hB1⟩; have m0 := (hB1.block g (by have := HG0.out; omega)).trans K0.out; have m1 := (hB1.block (g + 1) HG0.out).trans K1.out; have g2 := cell_of m0 2; have g10 := cell_of m0 10; have g11 := cell_of m0 11; have g12 := cell_of m0 12; have d10 := cell_of m1 10; have d11 := cell_of m1 11; have d12 := cell_of m1 12; clear m0 m1)
    go_ret
    exact ⟨rfl, nx HB.out hB1⟩
  subst e7
  go_enter Try.func47, Try.ntmps47
  go_wp2_with (go_at_call 70; rw [HWB.out]; refine HC.out.mono ?_; rintro e w1 ⟨rfl, hB1⟩; have m0 := (hB1.block g (by have := HG0.out; omega)).trans K0.out; have m1 := (hB1.block (g + 1) HG0.out).trans K1.out; have g2 := cell_of m0 2; have g10 := cell_of m0 10; have g11 := cell_of m0 11; have g12 := cell_of m0 12; have d10 := cell_of m1 10; have d11 := cell_of m1 11; have d12 := cell_of m1 12; clear m0 m1)
  go_loopw [5, 76] (fun _ i wr => ∃ j : Nat, j ≤ pn ∧ i = .int .i64 (j : Int) ∧ Hid (∀ i, i < j → a2[i]? = b2[i]?) ∧ Below wb.heap.size wb wr) (fun _ i _ => pn - (intOf i).toNat)
  case atStart => exact ⟨0, Nat.zero_le _, rfl, Lib.hid (fun i hi => absurd hi (Nat.not_lt_zero _)), hB1⟩
  case round =>
    clear g2 g10 g11 g12 d10 d11 d12
    obtain ⟨j, hj, rfl, hall, hB⟩ := hrel
    have m0 := (hB.block g (by have := HG0.out; omega)).trans K0.out
    have m1 := (hB.block (g + 1) HG0.out).trans K1.out
    by_cases hlt : j < pn
    · obtain ⟨ad, s, rfl, hs, A1, n1, c1, c0, c1', c2, c3, c4, c5, c6, c7, c8, c9, hsl⟩ := (HP.out.keep (At10.below hB)).at_ hlt
      obtain ⟨bd, u, rfl, hu, A2, n2, c2', d0, d1, d2, d3, d4, d5, d6, d7, d8, d9, hul⟩ := (HQ.out.keep (At10.below hB)).at_ hlt
      have i1 : (j : Int) < (pn : Int) := by omega
      have g2 := cell_of m0 2; have f2 := cell_of m1 2
      have HS := Lib.hid (samePR_any A1 A2 n1 n2 c1 c2' s u wr.drew hsl.drew hul.drew)
      have HSZ := Lib.hid hB.size
      clear m0 m1 hsl hul
      by_cases hsu : s = u
      · rw [decide_eq_true hsu] at HS
        have HA : Hid (∀ i, i < j + 1 → a2[i]? = b2[i]?) := Lib.hid (fun i hi => by
          by_cases e : i = j
          · subst e; rw [hs, hu, hsu]
          · exact hall.out i (by omega))
        clear hs hu hsu
        go_wp2_with fail
        go_still_tail 10, (by kernel_rfl)
        change wpList _ _ _ _ _ wr.drew
        go_wp2_with (go_at_call 79; refine HS.out.mono ?_; rintro e w2 ⟨rfl, hB2⟩)
        go_roundw
        case rel => exact ⟨j + 1, by omega, by go_num, HA, (below_drewN hB 1).trans (hB2.mono HSZ.out)⟩
        case measure => simp [intOf]; omega
      · rw [decide_eq_false hsu] at HS
        have HX : Hid (∀ v v' : List PN, decide ((⟨a0, a1, a2, a3, a4, v, a6, a7⟩ : CM) = ⟨a0, a1, b2, a3, a4, v', a6, a7⟩) = false) := Lib.hid (fun v v' => decide_eq_false (fun e => hsu (by
          have e2 := congrArg CM.props e
          dsimp only at e2
          rw [e2] at hs; exact Option.some.inj (hs.symm.trans hu))))
        clear hs hu hsu
        go_wp2_with fail
        go_still_tail 10, (by kernel_rfl)
        change wpList _ _ _ _ _ wr.drew
        go_wp2_with (go_at_call 79; refine HS.out.mono ?_; rintro e w2 ⟨rfl, hB2⟩)
        go_ret
        rw [HX.out]
        exact ⟨rfl, nx HB.out ((below_drewN hB 1).trans (hB2.mono HSZ.out))⟩
    · obtain rfl : j = pn := by omega
      have HY : Hid (a2 = b2) := Lib.hid (ends_any HLp.out HLq.out hall.out)
      have g10 := cell_of m0 10
      clear m0 m1 hall
      go_wp2_with fail
      go_loopw [6, 7, 8, 96] (fun _ _ _ i wr => ∃ j : Nat, j ≤ nn ∧ i = .int .i64 (j : Int) ∧ Hid (∀ i, i < j → a5[i]? = b5[i]?) ∧ Below wb.heap.size wb wr) (fun _ _ _ i _ => nn - (intOf i).toNat)
      case atStart => exact ⟨0, Nat.zero_le _, rfl, Lib.hid (fun i hi => absurd hi (Nat.not_lt_zero _)), hB⟩
      case round =>
        clear g10
        obtain ⟨k, hk, rfl, hall, hB2⟩ := hrel
        have m0 := (hB2.block g (by have := HG0.out; omega)).trans K0.out
        have m1 := (hB2.block (g + 1) HG0.out).trans K1.out
        by_cases hltk : k < nn
        · obtain ⟨ad, s, rfl, hs, A1, n1, c1, c0, c1', hsl⟩ := (HN.out.keep (At2.below hB2)).at_ hltk
          obtain ⟨bd, u, rfl, hu, A2, n2, c2', d0, d1, hul⟩ := (HO.out.keep (At2.below hB2)).at_ hltk
          have i1 : (k : Int) < (nn : Int) := by omega
          have g10 := cell_of m0 10
          have f10 := fun o => (World.cell?_alloc_lt wr o ⟨g + 1, 10, none⟩ (Array.getElem?_eq_some_iff.1 m1).1).trans (cell_of m1 10)
          have d0a := fun o => (World.cell?_alloc_lt wr o _ (World.block_lt_of_cell? wr _ d0)).trans d0
          have d1a := fun o => (World.cell?_alloc_lt wr o _ (World.block_lt_of_cell? wr _ d1)).trans d1
          clear d0 d1
          have hn1 : s.seals.length = n1 := by have := hsl.len; rwa [iv_length] at this
          have hn2 : u.seals.length = n2 := by have := hul.len; rwa [iv_length] at this
          have HX : Hid (s ≠ u → decide ((⟨a0, a1, a2, a3, a4, a5, a6, a7⟩ : CM) = ⟨a0, a1, b2, a3, a4, b5, a6, a7⟩) = false) := Lib.hid (fun hsu => decide_eq_false (fun e => hsu (by
            have e2 := congrArg CM.nodes e
            dsimp only at e2
            rw [e2] at hs; exact Option.some.inj (hs.symm.trans hu))))
          obtain ⟨g4, hg4⟩ : ∃ g4, wr.heap.size = g4 := ⟨_, rfl⟩
          obtain ⟨w2, hw2⟩ : ∃ w2, (wr.alloc (.cells #[.int .i64 s.enc, .slice A1 n1 c1] 111)).alloc (.cells #[.int .i64 u.enc, .slice A2 n2 c2'] 111) = w2 := ⟨_, rfl⟩
          have hB2' : Below wr.heap.size wr w2 := by rw [← hw2]; exact nxa (nxa (Below.refl _ _) _) _
          have HBW := Lib.hid (hB2.trans (hB2'.mono hB2.size))
          by_cases he : s.enc = u.enc
          case neg =>
            have t : (s.enc == u.enc) = false := by rw [beq_eq_false_iff_ne]; exact he
            have t2 : (s.enc != u.enc) = true := by rw [bne_iff_ne]; exact he
            have HD := Lib.hid (HX.out (fun e => he (by rw [e])))
            have HW2 := Lib.hid hw2
            clear he hs hu hsl hul m0 m1 hn1 hn2 hw2 hB2' hB2 hg4
            go_wp2_with fail
            go_ret
            rw [HD.out]
            exact ⟨rfl, by rw [HW2.out]; exact nx HB.out HBW.out⟩
          by_cases hl : n1 = n2
          case neg =>
            have t3 : ((n1 : Int) != (n2 : Int)) = true := by rw [bne_iff_ne]; omega
            have t : (s.enc == u.enc) = true := by rw [beq_iff_eq]; exact he
            have t2 : (s.enc != u.enc) = false := by rw [bne_eq_false_iff_eq]; exact he
            have HD := Lib.hid (HX.out (fun e => hl (by rw [← hn1, ← hn2, e])))
            have HW2 := Lib.hid hw2
            have HE := Lib.hid he
            clear he hs hu hsl hul m0 m1 hn1 hn2 hw2 hB2' hB2 hg4 hl
            go_wp2_with fail
            go_ret
            rw [HD.out]
            exact ⟨rfl, by rw [HW2.out]; exact nx HB.out HBW.out⟩
          have t : (s.enc == u.enc) = true := by rw [beq_iff_eq]; exact he
          have t2 : (s.enc != u.enc) = false := by rw [bne_eq_false_iff_eq]; exact he
          subst hl
          have t3 : ((n1 : Int) != (n1 : Int)) = false := by simp
          have htop1 := hsl.top; have hcap1 := hsl.cap; unfold maxLen at htop1
          have HSL := Lib.hid (hsl.below hB2'); have HUL := Lib.hid (hul.below hB2')
          have q0 : w2.heap[g4]? = some (.cells #[.int .i64 s.enc, .slice A1 n1 c1] 111) := by rw [← hw2, Below.heap_alloc _ _ _ (by simp; omega), ← hg4]; exact heap_alloc_new _ _
          have q1 : w2.heap[g4 + 1]? = some (.cells #[.int .i64 u.enc, .slice A2 n1 c2'] 111) := by
            have := heap_alloc_new (wr.alloc (.cells #[.int .i64 s.enc, .slice A1 n1 c1] 111)) (.cells #[.int .i64 u.enc, .slice A2 n1 c2'] 111)
            rw [← hw2]
            rwa [show (wr.alloc (.cells #[.int .i64 s.enc, .slice A1 n1 c1] 111)).heap.size = g4 + 1 by simp [hg4]] at this
          have HS := Lib.hid hs; have HU := Lib.hid hu; have HE := Lib.hid he; have HN1 := Lib.hid hn1; have HN2 := Lib.hid hn2; have HW2 := Lib.hid hw2
          have p1 := cell_of q0 1; have p2 := cell_of q1 1
          clear hs hu he hn1 hn2 hsl hul m0 m1 hw2 hB2' q0 q1
          go_wp2_with fail
          rw [HW2.out]
          clear c0 c1' d0a d1a f10 g10
          go_loopw [9, 128] (fun _ i wr => ∃ j q : Nat, j ≤ n1 ∧ i = .int .i64 (j : Int) ∧ Hid (∀ i, i < j → s.seals[i]? = u.seals[i]?) ∧ wr = w2.drewN q) (fun _ i _ => n1 - (intOf i).toNat)
          case atStart => exact ⟨0, 0, Nat.zero_le _, rfl, Lib.hid (fun i hi => absurd hi (Nat.not_lt_zero _)), rfl⟩
          case round =>
            obtain ⟨j, q, hj, rfl, hall2, rfl⟩ := hrel
            by_cases hltj : j < n1
            · obtain ⟨ed, v1, rfl, hs1, h1⟩ := HSL.out.at_ hltj
              obtain ⟨fd, v2, rfl, hs2, k1⟩ := HUL.out.at_ hltj
              rw [iv_get] at hs1 hs2
              obtain ⟨x, hx⟩ : ∃ x, s.seals[j]? = some x := ⟨_, List.getElem?_eq_getElem (by rw [HN1.out]; exact hltj)⟩
              obtain ⟨y, hy⟩ : ∃ y, u.seals[j]? = some y := ⟨_, List.getElem?_eq_getElem (by rw [HN2.out]; exact hltj)⟩
              rw [hx] at hs1
              rw [hy] at hs2
              simp at hs1 hs2
              subst hs1 hs2
              have i2 : (j : Int) < (n1 : Int) := by omega
              by_cases hss : x = y
              · subst hss
                have HA : Hid (∀ i, i < j + 1 → s.seals[i]? = u.seals[i]?) := Lib.hid (fun i hi => by
                  by_cases e : i = j
                  · subst e; rw [hx, hy]
                  · exact hall2.out i (by omega))
                clear hx hy
                go_wp2_with fail
                go_quiet (fail)
                go_wp2_with fail
                go_roundw
                case rel => exact ⟨j + 1, _, by omega, by go_num, HA, rfl⟩
                case measure => simp [intOf]; omega
              · have t4 : (x == y) = false := by rw [beq_eq_false_iff_ne]; exact hss
                have HD := Lib.hid (HX.out (fun e => hss (by rw [e] at hx; exact Option.some.inj (hx.symm.trans hy))))
                clear hss hx hy
                go_wp2_with fail
                go_quiet (fail)
                go_wp2_with fail
                go_ret
                rw [HD.out]
                exact ⟨rfl, below_drewN (below_drewN (nx HB.out HBW.out) _) _⟩
            · obtain rfl : j = n1 := by omega
              have HA : Hid (∀ i, i < k + 1 → a5[i]? = b5[i]?) := Lib.hid (fun i hi => by
                by_cases e : i = k
                · subst e; rw [HS.out, HU.out]
                  exact congrArg some ((pn_iff s u).1 ⟨HE.out, ends_any HN1.out HN2.out hall2.out⟩)
                · exact hall.out i (by omega))
              clear p1 p2 hall2
              go_wp2_with fail
              go_roundw
              case rel => exact ⟨k + 1, by omega, by go_num, HA, below_drewN HBW.out _⟩
              case measure => simp [intOf]; omega
        · obtain rfl : k = nn := by omega
          have HZ : Hid (a5 = b5) := Lib.hid (ends_any HLn.out HLo.out hall.out)
          have HF : Hid (decide ((⟨a0, a1, a2, a3, a4, a5, a6, a7⟩ : CM) = ⟨a0, a1, b2, a3, a4, b5, a6, a7⟩) = true) := Lib.hid (decide_eq_true (by rw [HY.out, HZ.out]))
          clear m0 m1
          go_wp2_with fail
          go_ret
          rw [HF.out]
          exact ⟨rfl, nx HB.out hB2⟩
end Go.Proofs.Ytjebmmmjjiomfaa
