/- The walks of a writer's commit and of codec.Commit. -/
import Derived.Test.YtjebmmmjjiomfaaCComW2
namespace Go.Proofs.Ytjebmmmjjiomfaa
open Go.RowKit

/-- the end of a commit's bytes -/
def tailB (x : CM) : Option (List UInt8) := if x.has then seqB (nsI [1]) (pathB x.leaf x.nodes) else if zeroN x.leaf ∧ x.nodes = [] then nsI [0] else none
theorem commitB_eq (x : CM) : commitB x = seqB (nsI [x.by_, x.epoch]) (seqB ((allB propB x.props).bind vecB) (seqB (nsI [x.sig, x.tag]) (tailB x))) := rfl
theorem commitB_1 {x : CM} (h : nsI [x.by_, x.epoch] = none) : commitB x = none := by rw [commitB_eq, h]; rfl
theorem commitB_2 {x : CM} (h : (allB propB x.props).bind vecB = none) : commitB x = none := by rw [commitB_eq, h]; simp
theorem commitB_3 {x : CM} (h : nsI [x.sig, x.tag] = none) : commitB x = none := by rw [commitB_eq, h]; simp
theorem commitB_4 {x : CM} (h : tailB x = none) : commitB x = none := by rw [commitB_eq, h]; simp
theorem commitB_5 {x : CM} {a b c d : List UInt8} (h1 : nsI [x.by_, x.epoch] = some a) (h2 : (allB propB x.props).bind vecB = some b) (h3 : nsI [x.sig, x.tag] = some c) (h4 : tailB x = some d) : commitB x = some (a ++ (b ++ (c ++ d))) := by
  rw [commitB_eq, h1, h2, h3, h4, seqB_yes, seqB_yes, seqB_yes]
theorem zeroN_iff (s : TN) : zeroN s ↔ s = zN := by
  obtain ⟨a, b, c, d, e, f⟩ := s
  simp [zeroN, zN]
set_option maxRecDepth 100000 in
set_option maxHeartbeats 8000000 in
theorem wcommit_ok (p : Nat) (x : CM) (P : CP) (w0 w : World) (h : WR w p []) (hM : CMem w0 x P) (hB : Below w0.heap.size w0 w) (hq : w0.heap.size ≤ p) (hz : Hid (szC x ≤ 1048576)) :
    Calls Try.prog 78 #[.pointer (some ⟨p, 0, none⟩), cv x P] w (WEnd p [] (commitB x) w) := by
  have hmf := hmfT
  have hpw := h.bit
  have hfew := few_szC hz.out
  have F1 := Lib.hid hfew.1; have F2 := Lib.hid hfew.2.1; have F3 := Lib.hid hfew.2.2
  obtain ⟨g, hg⟩ : ∃ g, w.heap.size = g := ⟨_, rfl⟩
  obtain ⟨wb, hwb⟩ : ∃ wb, w.alloc (.cells (cc x P) 72) = wb := ⟨_, rfl⟩
  have hzb : wb.heap.size = g + 1 := by rw [← hwb]; simp [hg]
  have hWb : WR wb p [] := by rw [← hwb]; exact h.alloc _
  have hKb : KW p w wb := by rw [← hwb]; exact (KW.refl p w).alloc (by omega) _
  have k0 : wb.heap[g]? = some (.cells (cc x P) 72) := by rw [← hwb, ← hg]; exact heap_alloc_new _ _
  obtain ⟨wr, hwr⟩ : ∃ wr, wb.alloc (.cells #[.int .i64 x.by_, .int .i64 x.epoch] 3) = wr := ⟨_, rfl⟩
  have hWr : WR wr p [] := by rw [← hwr]; exact hWb.alloc _
  have hKr : KW p w wr := by rw [← hwr]; exact hKb.alloc (by omega) _
  have k1 : wr.heap[g]? = some (.cells (cc x P) 72) := by rw [← hwr, Below.heap_alloc _ _ _ (by omega)]; exact k0
  have hrow : SlK wr p (some ⟨g + 1, 0, none⟩) 2 2 (iv [x.by_, x.epoch]) := by
    have := SlK.lit wb p [x.by_, x.epoch] #[.int .i64 x.by_, .int .i64 x.epoch] rfl 2 rfl (by omega) (by omega)
    rwa [hwr, hzb] at this
  have HC := Lib.hid (wints_ok p [] (some ⟨g + 1, 0, none⟩) 2 2 [x.by_, x.epoch] wr hWr hrow (by show _ ≤ _; simp))
  have HKR := Lib.hid hKr; have K1 := Lib.hid k1; have HWB := Lib.hid hwb; have HWR := Lib.hid hwr; have HB := Lib.hid hB; have HM := Lib.hid hM
  have hpg : p < g := by omega
  clear hzb hWb hKb k0 hWr hKr k1 hrow hwb hwr hB h hM hfew
  unfold cv
  go_enter Try.func78, Try.ntmps78
  go_wp2_with fail
  rw [HWB.out, HWR.out]
  refine HC.out.mono ?_
  rintro e w1 (⟨b, h1, rfl, hW1, hK⟩ | ⟨h1, rfl, hK⟩)
  · have kg := hK.typed K1.out (by omega) (by decide)
    have hK1 := HKR.out.trans hK
    have hB1 : Below w0.heap.size w0 w1 := HB.out.trans (hK1.below.mono hq)
    have hgs := (Array.getElem?_eq_some_iff.1 kg).1
    have hin : Calls Try.prog 108 #[.pointer (some ⟨w1.heap.size, 0, none⟩), .pointer (some ⟨g, 0, none⟩)] (w1.alloc (.cells #[.slice none 0 0] 126)) (WEnd w1.heap.size [] (allB propB x.props) (w1.alloc (.cells #[.slice none 0 0] 126))) :=
      wcommit1_ok _ g [] P.pA P.pn P.pc x.props w0 _ (WR.new w1) HM.out.ps (hB1.alloc hB1.size _) (by have := hB1.size; omega) (cell_of ((Below.heap_alloc w1 _ g (by omega)).trans kg) 2) F1 (by show _ ≤ _; simp)
    have hb1 : b.length ≤ 8 := by have := nsI_len h1; simpa using this
    have HV := Lib.hid (wvec_ok p ([] ++ b) 108 #[.pointer (some ⟨g, 0, none⟩)] (allB propB x.props) w1 hW1 (by show _ ≤ _; simp; omega) cf108 hin)
    have H1 := Lib.hid h1; have HK1 := Lib.hid hK1; have KG := Lib.hid kg
    clear h1 hW1 hK hK1 kg hB1 hgs hin
    go_wp2_with fail
    refine HV.out.mono ?_
    rintro e w2 (⟨b2, h2, rfl, hW2, hK2⟩ | ⟨h2, rfl, hK2⟩)
    · have kg := hK2.typed KG.out (by omega) (by decide)
      have hK3 := HK1.out.trans hK2
      have hbit2 := hW2.bit
      have hb2 : b2.length ≤ 1073741828 := by
        obtain ⟨u, _, h9⟩ := bindB_some h2
        exact vecB_len h9
      obtain ⟨w3, hw3⟩ : ∃ w3, w2.alloc (.cells #[.int .i64 x.sig, .int .i64 x.tag] 3) = w3 := ⟨_, rfl⟩
      have hW3 : WR w3 p ([] ++ b ++ b2) := by rw [← hw3]; exact hW2.alloc _
      have hrow : SlK w3 p (some ⟨w2.heap.size, 0, none⟩) 2 2 (iv [x.sig, x.tag]) := by
        rw [← hw3]
        exact SlK.lit w2 p [x.sig, x.tag] #[.int .i64 x.sig, .int .i64 x.tag] rfl 2 rfl hbit2 (by omega)
      have HC3 := Lib.hid (wints_ok p ([] ++ b ++ b2) (some ⟨w2.heap.size, 0, none⟩) 2 2 [x.sig, x.tag] w3 hW3 hrow (by show _ ≤ _; simp; omega))
      have k3 : w3.heap[g]? = some (.cells (cc x P) 72) := by rw [← hw3, Below.heap_alloc _ _ _ (by have := (Array.getElem?_eq_some_iff.1 kg).1; omega)]; exact kg
      have g11 := cell_of kg 11; have g12 := cell_of kg 12
      have HK4 := Lib.hid (show KW p w w3 by rw [← hw3]; exact hK3.alloc (Nat.le_of_lt hbit2) _)
      have H2 := Lib.hid h2; have HW3 := Lib.hid hw3; have K3 := Lib.hid k3
      clear h2 hW2 hK2 hK3 kg hw3 hW3 hrow k3
      go_wp2_with fail
      rw [HW3.out]
      clear g11 g12
      refine HC3.out.mono ?_
      rintro e w4 (⟨b3, h3, rfl, hW4, hK4⟩ | ⟨h3, rfl, hK4⟩)
      · have kg := hK4.typed K3.out (by omega) (by decide)
        have hK5 := HK4.out.trans hK4
        have hbit4 := hW4.bit
        have hb3 : b3.length ≤ 8 := by have := nsI_len h3; simpa using this
        have hg4 := (Array.getElem?_eq_some_iff.1 kg).1
        have g3 := cell_of kg 3
        obtain ⟨hs, hhs⟩ : ∃ hs, x.has = hs := ⟨_, rfl⟩
        have HHS := Lib.hid hhs
        rw [show (cc x P)[3]? = some (.bool x.has) from rfl, hhs] at g3
        cases hs
        · obtain ⟨w5, hw5⟩ : ∃ w5, w4.alloc (.cells #[.int .i64 0] 3) = w5 := ⟨_, rfl⟩
          have hW5 : WR w5 p ([] ++ b ++ b2 ++ b3) := by rw [← hw5]; exact hW4.alloc _
          have hrow : SlK w5 p (some ⟨w4.heap.size, 0, none⟩) 1 1 (iv [0]) := by
            rw [← hw5]; exact SlK.lit w4 p [0] #[.int .i64 0] rfl 1 rfl hbit4 (by omega)
          have HC5 := Lib.hid (wints_ok p ([] ++ b ++ b2 ++ b3) (some ⟨w4.heap.size, 0, none⟩) 1 1 [0] w5 hW5 hrow (by show _ ≤ _; simp; omega))
          have k5 : w5.heap[g]? = some (.cells (cc x P) 72) := by rw [← hw5, Below.heap_alloc _ _ _ (by omega)]; exact kg
          have HK5 := Lib.hid (show KW p w w5 by rw [← hw5]; exact hK5.alloc (Nat.le_of_lt hbit4) _)
          have H3 := Lib.hid h3; have HW5 := Lib.hid hw5; have K5 := Lib.hid k5
          clear h3 hW4 hK4 hK5 kg hw5 hW5 hrow k5 hhs
          go_wp2_with fail
          rw [HW5.out]
          clear g3
          refine HC5.out.mono ?_
          rintro e w6 (⟨b4, h4, rfl, hW6, hK6⟩ | ⟨h4, rfl, hK6⟩)
          · have kg := hK6.typed K5.out (by omega) (by decide)
            have hK7 := HK5.out.trans hK6
            have hB6 : Below w0.heap.size w0 w6 := HB.out.trans (hK7.below.mono hq)
            have HS := Lib.hid (same_any P.lA none P.ln 0 P.lc 0 x.leaf zN w6 (HM.out.un.below hB6) (Sl.none _))
            have hbit6 := hW6.bit
            have hnl : x.nodes.length = P.nn := HM.out.ns.len
            have hg6 := (Array.getElem?_eq_some_iff.1 kg).1
            have g4 := cell_of kg 4; have g5 := cell_of kg 5; have g6 := cell_of kg 6; have g7 := cell_of kg 7; have g8 := cell_of kg 8; have g9 := cell_of kg 9
            have HW6 := Lib.hid hW6; have HK7 := Lib.hid hK7; have H4 := Lib.hid h4; have KG := Lib.hid kg; have HNL := Lib.hid hnl
            unfold nv at HS
            have hfin : ∀ v : Bool, v = decide (zeroN x.leaf ∧ x.nodes = []) → tailB x = if v then some b4 else none := fun v hv => by
              unfold tailB
              rw [HHS.out, if_neg (by decide), hv]
              by_cases e : zeroN x.leaf ∧ x.nodes = []
              · rw [if_pos e, decide_eq_true e, H4.out]; rfl
              · rw [if_neg e, decide_eq_false e]; rfl
            have HFIN := Lib.hid hfin
            clear h4 hW6 hK6 hK7 kg hB6 hnl hfin
            by_cases hzn : x.leaf = zN
            · rw [sameN_yes hzn] at HS
              have hz0 := (zeroN_iff x.leaf).2 hzn
              have HZ0 := Lib.hid hz0
              clear hzn hz0
              by_cases hnn : P.nn = 0
              · have HT4 : Hid (tailB x = some b4) := Lib.hid (HFIN.out true (decide_eq_true ⟨HZ0.out, List.eq_nil_of_length_eq_zero (by rw [HNL.out, hnn])⟩).symm)
                go_wp2_with (first
                  | (go_at_call 110; refine HS.out.mono ?_; rintro e w7 ⟨rfl, hB7⟩; have g10 := cell_of ((hB7.block g hg6).trans KG.out) 10)
                  | (go_at_call 85; refine (must_ok _).mono ?_; rintro e w1 ⟨rfl, rfl⟩))
                go_end0
                refine .inl ⟨b ++ (b2 ++ (b3 ++ b4)), commitB_5 H1.out H2.out H3.out HT4.out, rfl, ?_, HK7.out.trans (KW.of hB7 (by omega))⟩
                have := HW6.out.below hB7
                simpa using this
              · have HT4 : Hid (tailB x = none) := Lib.hid (HFIN.out false (decide_eq_false (fun e => hnn (by rw [← HNL.out, e.2]; rfl))).symm)
                have t : ((P.nn : Int) == 0) = false := by rw [beq_eq_false_iff_ne]; omega
                have t' : (P.nn == 0) = false := by rw [beq_eq_false_iff_ne]; exact hnn
                clear hnn
                go_wp2_with (first
                  | (go_at_call 110; refine HS.out.mono ?_; rintro e w7 ⟨rfl, hB7⟩; have g10 := cell_of ((hB7.block g hg6).trans KG.out) 10)
                  | (go_at_call 85; refine (must_no _).mono ?_; rintro e w1 ⟨rfl, rfl⟩))
                simp +zetaDelta [bodyPost]
                exact .inr ⟨commitB_4 HT4.out, rfl, HK7.out.trans (KW.of hB7 (by omega))⟩
            · rw [sameN_no hzn] at HS
              have HT4 : Hid (tailB x = none) := Lib.hid (HFIN.out false (decide_eq_false (fun e => hzn ((zeroN_iff x.leaf).1 e.1))).symm)
              clear hzn
              go_wp2_with (first
                | (go_at_call 110; refine HS.out.mono ?_; rintro e w7 ⟨rfl, hB7⟩)
                | (go_at_call 85; refine (must_no _).mono ?_; rintro e w1 ⟨rfl, rfl⟩))
              simp +zetaDelta [bodyPost]
              exact .inr ⟨commitB_4 HT4.out, rfl, HK7.out.trans (KW.of hB7 (by omega))⟩
          · exact absurd h4 (by decide)
        · obtain ⟨w5, hw5⟩ : ∃ w5, w4.alloc (.cells #[.int .i64 1] 3) = w5 := ⟨_, rfl⟩
          have hW5 : WR w5 p ([] ++ b ++ b2 ++ b3) := by rw [← hw5]; exact hW4.alloc _
          have hrow : SlK w5 p (some ⟨w4.heap.size, 0, none⟩) 1 1 (iv [1]) := by
            rw [← hw5]; exact SlK.lit w4 p [1] #[.int .i64 1] rfl 1 rfl hbit4 (by omega)
          have HC5 := Lib.hid (wints_ok p ([] ++ b ++ b2 ++ b3) (some ⟨w4.heap.size, 0, none⟩) 1 1 [1] w5 hW5 hrow (by show _ ≤ _; simp; omega))
          have k5 : w5.heap[g]? = some (.cells (cc x P) 72) := by rw [← hw5, Below.heap_alloc _ _ _ (by omega)]; exact kg
          have HK5 := Lib.hid (show KW p w w5 by rw [← hw5]; exact hK5.alloc (Nat.le_of_lt hbit4) _)
          have H3 := Lib.hid h3; have HW5 := Lib.hid hw5; have K5 := Lib.hid k5
          clear h3 hW4 hK4 hK5 kg hw5 hW5 hrow k5 hhs
          go_wp2_with fail
          rw [HW5.out]
          clear g3
          refine HC5.out.mono ?_
          rintro e w6 (⟨b4, h4, rfl, hW6, hK6⟩ | ⟨h4, rfl, hK6⟩)
          · have kg := hK6.typed K5.out (by omega) (by decide)
            have hK7 := HK5.out.trans hK6
            have hB6 : Below w0.heap.size w0 w6 := HB.out.trans (hK7.below.mono hq)
            have hb4 : b4.length ≤ 4 := by have := nsI_len h4; simpa using this
            have HP := Lib.hid (wpath_ok p ([] ++ b ++ b2 ++ b3 ++ b4) x.leaf P.lA P.ln P.lc x.nodes P.nA P.nn P.nc w0 w6 hW6 HM.out.un HM.out.ns hB6 hq F2 F3 (by show _ ≤ _; simp; omega))
            have g4 := cell_of kg 4; have g5 := cell_of kg 5; have g6 := cell_of kg 6; have g7 := cell_of kg 7; have g8 := cell_of kg 8; have g9 := cell_of kg 9; have g10 := cell_of kg 10
            have HK7 := Lib.hid hK7; have H4 := Lib.hid h4
            clear h4 hW6 hK6 hK7 kg hB6
            go_wp2_with fail
            refine HP.out.mono ?_
            rintro e w7 (⟨b5, h5, rfl, hW7, hK8⟩ | ⟨h5, rfl, hK8⟩)
            · go_wp2_with fail
              go_end0
              have HT4 : tailB x = some (b4 ++ b5) := by unfold tailB; rw [HHS.out, if_pos rfl, H4.out, h5, seqB_yes]
              refine .inl ⟨b ++ (b2 ++ (b3 ++ (b4 ++ b5))), commitB_5 H1.out H2.out H3.out HT4, rfl, ?_, HK7.out.trans hK8⟩
              simpa using hW7
            · simp [bodyPost]
              exact .inr ⟨commitB_4 (by unfold tailB; rw [HHS.out, if_pos rfl, h5]; simp), rfl, HK7.out.trans hK8⟩
          · exact absurd h4 (by decide)
      · simp [bodyPost]
        exact .inr ⟨commitB_3 h3, rfl, HK4.out.trans hK4⟩
    · simp [bodyPost]
      exact .inr ⟨commitB_2 h2, rfl, HK1.out.trans hK2⟩
  · simp [bodyPost]
    exact .inr ⟨commitB_1 h1, rfl, HKR.out.trans hK⟩
theorem cf77 (args : Array Value) (w : World) : (callFunc 77 args).run Try.prog w = .ok (.enter 77 args) w := by kernel_rfl
set_option maxRecDepth 100000 in
set_option maxHeartbeats 4000000 in
theorem commit1_ok (p g : Nat) (x : CM) (P : CP) (w0 w : World) (h : WR w p []) (hM : CMem w0 x P) (hB : Below w0.heap.size w0 w) (hq : w0.heap.size ≤ p) (hz : Hid (szC x ≤ 1048576)) (hg : w.heap[g]? = some (.cells (cc x P) 72)) :
    Calls Try.prog 77 #[.pointer (some ⟨p, 0, none⟩), .pointer (some ⟨g, 0, none⟩)] w (WEnd p [] (commitB x) w) := by
  have H := Lib.hid (wcommit_ok p x P w0 w h hM hB hq hz)
  have g0 := cell_of hg 0; have g1 := cell_of hg 1; have g2 := cell_of hg 2; have g3 := cell_of hg 3; have g4 := cell_of hg 4; have g5 := cell_of hg 5; have g6 := cell_of hg 6; have g7 := cell_of hg 7; have g8 := cell_of hg 8; have g9 := cell_of hg 9; have g10 := cell_of hg 10; have g11 := cell_of hg 11; have g12 := cell_of hg 12
  unfold cv at H
  clear hg h hM hB
  go_enter Try.func77, Try.ntmps77
  go_wp2_with fail
  refine H.out.mono ?_
  rintro e w1 (⟨b, h1, rfl, h3, h4⟩ | ⟨h1, rfl, h3⟩)
  · go_wp2_with fail
    go_end0
    exact .inl ⟨b, h1, rfl, h3, h4⟩
  · simp [bodyPost]
    exact .inr ⟨h1, rfl, h3⟩
set_option maxRecDepth 100000 in
/-- codec.Commit -/
theorem commit_ok (x : CM) (P : CP) (w : World) (hM : CMem w x P) (hz : Hid (szC x ≤ 1048576)) :
    Calls Try.prog 46 #[cv x P] w (CEnd (commitB x) w) := by
  have hmf := hmfT
  have hs : (w.alloc (.cells (cc x P) 72)).heap.size = w.heap.size + 1 := by simp
  have k0 := heap_alloc_new w (.cells (cc x P) 72)
  have hB0 : Below w.heap.size w (w.alloc (.cells (cc x P) 72)) := nxa (Below.refl _ _) _
  have H := Lib.hid (written_ok 77 #[.pointer (some ⟨w.heap.size, 0, none⟩)] (commitB x) (w.alloc (.cells (cc x P) 72)) cf77
    (Lib.hid (fun wf hB hW => commit1_ok _ _ x P w wf hW hM (nx hB0 hB) (by omega) hz ((hB.block _ (by omega)).trans k0))))
  have HB := Lib.hid hB0
  clear k0 hB0 hs
  unfold cv
  go_enter Try.func46, Try.ntmps46
  go_wp2_with fail
  refine H.out.mono ?_
  rintro e w1 ⟨⟨b, A1, c1, ho, rfl, hs⟩ | ⟨ho, rfl⟩, hB⟩
  · go_wp2_with fail
    go_ret2
    exact ⟨.inl ⟨b, A1, c1, ho, rfl, hs⟩, nx HB.out hB⟩
  · go_wp2_with fail
    go_ret2
    exact ⟨.inr ⟨ho, rfl⟩, nx HB.out hB⟩
end Go.Proofs.Ytjebmmmjjiomfaa
