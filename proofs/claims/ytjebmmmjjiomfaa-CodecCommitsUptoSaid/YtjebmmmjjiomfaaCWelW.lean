/- The walks of a writer's welcome and of codec.Welcome. -/
import Derived.Test.YtjebmmmjjiomfaaCWritten
namespace Go.Proofs.Ytjebmmmjjiomfaa
open Go.RowKit

abbrev wc (x : WM) (A : Option Addr) (n c : Nat) : Array Value := #[.int .i64 x.at_, .int .i64 x.by_, .int .i64 x.id, .int .i64 x.epoch, .slice A n c, .int .i64 x.conf, .int .i64 x.ext, .int .i64 x.sig, .int .i64 x.tag, .int .i64 x.sealed_]
/-- a welcome as a value -/
def wv (x : WM) (A : Option Addr) (n c : Nat) : Value := .agg (wc x A n c)
theorem welcomeB_1 {x : WM} (h : nsI [x.at_, x.by_, x.id, x.epoch] = none) : welcomeB x = none := by unfold welcomeB; rw [h]; rfl
theorem welcomeB_2 {x : WM} (h : treeB x.tree = none) : welcomeB x = none := by unfold welcomeB; rw [h]; simp
theorem welcomeB_3 {x : WM} (h : nsI [x.conf, x.ext, x.sig, x.tag, x.sealed_] = none) : welcomeB x = none := by unfold welcomeB; rw [h]; simp
set_option maxRecDepth 100000 in
set_option maxHeartbeats 4000000 in
theorem wwelcome_ok (p : Nat) (A : Option Addr) (n c : Nat) (x : WM) (w0 w : World) (h : WR w p []) (hT : Ts w0 A n c x.tree) (hB : Below w0.heap.size w0 w) (hf : Hid (Few x.tree)) (hq : w0.heap.size ≤ p) :
    Calls Try.prog 72 #[.pointer (some ⟨p, 0, none⟩), wv x A n c] w (WEnd p [] (welcomeB x) w) := by
  have hpw := h.bit
  obtain ⟨g, hg⟩ : ∃ g, w.heap.size = g := ⟨_, rfl⟩
  obtain ⟨wb, hwb⟩ : ∃ wb, w.alloc (.cells (wc x A n c) 58) = wb := ⟨_, rfl⟩
  have hzb : wb.heap.size = g + 1 := by rw [← hwb]; simp [hg]
  have hWb : WR wb p [] := by rw [← hwb]; exact h.alloc _
  have hKb : KW p w wb := by rw [← hwb]; exact (KW.refl p w).alloc (by omega) _
  have k0 : wb.heap[g]? = some (.cells (wc x A n c) 58) := by rw [← hwb, ← hg]; exact heap_alloc_new _ _
  obtain ⟨wr, hwr⟩ : ∃ wr, wb.alloc (.cells #[.int .i64 x.at_, .int .i64 x.by_, .int .i64 x.id, .int .i64 x.epoch] 3) = wr := ⟨_, rfl⟩
  have hWr : WR wr p [] := by rw [← hwr]; exact hWb.alloc _
  have hKr : KW p w wr := by rw [← hwr]; exact hKb.alloc (by omega) _
  have k1 : wr.heap[g]? = some (.cells (wc x A n c) 58) := by rw [← hwr, Below.heap_alloc _ _ _ (by omega)]; exact k0
  have hrow : SlK wr p (some ⟨g + 1, 0, none⟩) 4 4 (iv [x.at_, x.by_, x.id, x.epoch]) := by
    have := SlK.lit wb p [x.at_, x.by_, x.id, x.epoch] #[.int .i64 x.at_, .int .i64 x.by_, .int .i64 x.id, .int .i64 x.epoch] rfl 4 rfl (by omega) (by omega)
    rwa [hwr, hzb] at this
  have HC := Lib.hid (wints_ok p [] (some ⟨g + 1, 0, none⟩) 4 4 [x.at_, x.by_, x.id, x.epoch] wr hWr hrow (by show _ ≤ _; simp))
  have HKR := Lib.hid hKr; have K1 := Lib.hid k1; have HWB := Lib.hid hwb; have HWR := Lib.hid hwr; have HB := Lib.hid hB; have HT := Lib.hid hT
  have hpg : p < g := by omega
  clear hzb hWb hKb k0 hWr hKr k1 hrow hwb hwr hB h hT
  unfold wv
  go_enter Try.func72, Try.ntmps72
  go_wp2_with fail
  rw [HWB.out, HWR.out]
  refine HC.out.mono ?_
  rintro e w1 (⟨b, h1, rfl, hW1, hK⟩ | ⟨h1, rfl, hK⟩)
  · have kg := hK.typed K1.out (by omega) (by decide)
    have hK1 := HKR.out.trans hK
    have HC2 := Lib.hid (wtree_ok p ([] ++ b) A n c x.tree w0 w1 hW1 HT.out (HB.out.trans (hK1.below.mono hq)) hf (by show _ ≤ _; have := nsI_len h1; simp at *; omega))
    have g4 := cell_of kg 4
    have H1 := Lib.hid h1; have HK1 := Lib.hid hK1; have KG := Lib.hid kg
    clear h1 hW1 hK hK1 kg
    go_wp2_with fail
    refine HC2.out.mono ?_
    rintro e w2 (⟨b2, h2, rfl, hW2, hK2⟩ | ⟨h2, rfl, hK2⟩)
    · have kg := hK2.typed KG.out (by omega) (by decide)
      have hK3 := HK1.out.trans hK2
      have hbit2 := hW2.bit
      obtain ⟨w3, hw3⟩ : ∃ w3, w2.alloc (.cells #[.int .i64 x.conf, .int .i64 x.ext, .int .i64 x.sig, .int .i64 x.tag, .int .i64 x.sealed_] 3) = w3 := ⟨_, rfl⟩
      have hW3 : WR w3 p ([] ++ b ++ b2) := by rw [← hw3]; exact hW2.alloc _
      have hrow : SlK w3 p (some ⟨w2.heap.size, 0, none⟩) 5 5 (iv [x.conf, x.ext, x.sig, x.tag, x.sealed_]) := by
        rw [← hw3]
        exact SlK.lit w2 p [x.conf, x.ext, x.sig, x.tag, x.sealed_] #[.int .i64 x.conf, .int .i64 x.ext, .int .i64 x.sig, .int .i64 x.tag, .int .i64 x.sealed_] rfl 5 rfl hbit2 (by omega)
      have hbl : b2.length ≤ 1073741828 := by
        obtain ⟨u, _, h9⟩ := bindB_some h2
        exact vecB_len h9
      have HC3 := Lib.hid (wints_ok p ([] ++ b ++ b2) (some ⟨w2.heap.size, 0, none⟩) 5 5 [x.conf, x.ext, x.sig, x.tag, x.sealed_] w3 hW3 hrow (by show _ ≤ _; have := nsI_len H1.out; simp at *; omega))
      have g5 := cell_of kg 5; have g6 := cell_of kg 6; have g7 := cell_of kg 7; have g8 := cell_of kg 8; have g9 := cell_of kg 9
      have HK4 := Lib.hid (show KW p w w3 by rw [← hw3]; exact hK3.alloc (Nat.le_of_lt hbit2) _)
      have H2 := Lib.hid h2; have HW3 := Lib.hid hw3
      clear h2 hW2 hK2 hK3 kg hw3 hW3 hrow hbl g4
      go_wp2_with fail
      rw [HW3.out]
      refine HC3.out.mono ?_
      rintro e w4 (⟨b3, h3, rfl, hW4, hK4⟩ | ⟨h3, rfl, hK4⟩)
      · go_wp2_with fail
        go_end0
        refine .inl ⟨b ++ (b2 ++ b3), ?_, rfl, ?_, HK4.out.trans hK4⟩
        · unfold welcomeB; rw [H1.out, H2.out, h3, seqB_yes, seqB_yes]
        · simpa using hW4
      · simp [bodyPost]
        exact .inr ⟨welcomeB_3 h3, rfl, HK4.out.trans hK4⟩
    · simp [bodyPost]
      exact .inr ⟨welcomeB_2 h2, rfl, HK1.out.trans hK2⟩
  · simp [bodyPost]
    exact .inr ⟨welcomeB_1 h1, rfl, HKR.out.trans hK⟩
theorem cf71 (args : Array Value) (w : World) : (callFunc 71 args).run Try.prog w = .ok (.enter 71 args) w := by kernel_rfl
set_option maxRecDepth 100000 in
set_option maxHeartbeats 4000000 in
theorem welcome1_ok (p g : Nat) (A : Option Addr) (n c : Nat) (x : WM) (w0 w : World) (h : WR w p []) (hT : Ts w0 A n c x.tree) (hB : Below w0.heap.size w0 w) (hf : Hid (Few x.tree)) (hq : w0.heap.size ≤ p) (hg : w.heap[g]? = some (.cells (wc x A n c) 58)) :
    Calls Try.prog 71 #[.pointer (some ⟨p, 0, none⟩), .pointer (some ⟨g, 0, none⟩)] w (WEnd p [] (welcomeB x) w) := by
  have H := Lib.hid (wwelcome_ok p A n c x w0 w h hT hB hf hq)
  have g0 := cell_of hg 0; have g1 := cell_of hg 1; have g2 := cell_of hg 2; have g3 := cell_of hg 3; have g4 := cell_of hg 4; have g5 := cell_of hg 5; have g6 := cell_of hg 6; have g7 := cell_of hg 7; have g8 := cell_of hg 8; have g9 := cell_of hg 9
  unfold wv at H
  clear hg h hT hB
  go_enter Try.func71, Try.ntmps71
  go_wp2_with fail
  refine H.out.mono ?_
  rintro e w1 (⟨b, h1, rfl, h3, h4⟩ | ⟨h1, rfl, h3⟩)
  · go_wp2_with fail
    go_end0
    exact .inl ⟨b, h1, rfl, h3, h4⟩
  · simp [bodyPost]
    exact .inr ⟨h1, rfl, h3⟩
set_option maxRecDepth 100000 in
/-- codec.Welcome -/
theorem welcome_ok (A : Option Addr) (n c : Nat) (x : WM) (w : World) (hT : Ts w A n c x.tree) (hf : Hid (Few x.tree)) :
    Calls Try.prog 40 #[wv x A n c] w (CEnd (welcomeB x) w) := by
  have hmf := hmfT
  have hz : (w.alloc (.cells (wc x A n c) 58)).heap.size = w.heap.size + 1 := by simp
  have k0 := heap_alloc_new w (.cells (wc x A n c) 58)
  have hB0 : Below w.heap.size w (w.alloc (.cells (wc x A n c) 58)) := nxa (Below.refl _ _) _
  have H := Lib.hid (written_ok 71 #[.pointer (some ⟨w.heap.size, 0, none⟩)] (welcomeB x) (w.alloc (.cells (wc x A n c) 58)) cf71
    (Lib.hid (fun wf hB hW => welcome1_ok _ _ A n c x w wf hW hT (nx hB0 hB) hf (by omega) ((hB.block _ (by omega)).trans k0))))
  have HB := Lib.hid hB0
  clear k0 hB0 hz
  unfold wv
  go_enter Try.func40, Try.ntmps40
  go_wp2_with fail
  refine H.out.mono ?_
  rintro e w1 ⟨⟨b, A1, c1, ho, rfl, hs⟩ | ⟨ho, rfl⟩, hB⟩
  · go_wp2_with fail
    go_ret2
    exact ⟨.inl ⟨b, A1, c1, ho, rfl, hs⟩, nx HB.out hB⟩
  · go_wp2_with fail
    go_ret2
    exact ⟨.inr ⟨ho, rfl⟩, nx HB.out hB⟩
end Go.Proofs.Ytjebmmmjjiomfaa
