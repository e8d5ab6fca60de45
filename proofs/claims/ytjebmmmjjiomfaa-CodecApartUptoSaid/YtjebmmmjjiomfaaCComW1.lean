/- The walks of a writer's proposals and path. -/
import Derived.Test.YtjebmmmjjiomfaaCMem
namespace Go.Proofs.Ytjebmmmjjiomfaa
open Go.RowKit

abbrev pc10 (s : PR) (A : Option Addr) (n c : Nat) : Array Value := #[.int .i64 s.k, .int .i64 s.from_, .int .i64 s.leaf.k, .int .i64 s.leaf.id, .int .i64 s.leaf.enc, .int .i64 s.leaf.sig, .int .i64 s.leaf.hash, .slice A n c, .int .i64 s.at_, .int .i64 s.term]
theorem propB_1 {s : PR} (h : nsI [s.k, s.from_] = none) : propB s = none := by unfold propB; rw [h]; rfl
theorem propB_2 {s : PR} (h : nodeB s.leaf = none) : propB s = none := by unfold propB; rw [h]; simp
theorem propB_3 {s : PR} (h : nsI [s.at_, s.term] = none) : propB s = none := by unfold propB; rw [h]; simp
set_option maxRecDepth 100000 in
set_option maxHeartbeats 4000000 in
/-- commit$1 -/
theorem wcommit1_ok (q g : Nat) (l : List UInt8) (A : Option Addr) (n c : Nat) (t : List PR) (w0 w : World) (h : WR w q l) (hT : Ps w0 A n c t) (hB : Below w0.heap.size w0 w) (hq : w0.heap.size ≤ q) (hg : w.cell? ⟨g, 2, none⟩ = some (.slice A n c))
    (hf : Hid (t.length ≤ 1048576 ∧ ∀ s ∈ t, s.leaf.un.length ≤ 1048576)) (hl : Hid (l.length ≤ 1073741824)) :
    Calls Try.prog 108 #[.pointer (some ⟨q, 0, none⟩), .pointer (some ⟨g, 0, none⟩)] w (WEnd q l (allB propB t) w) := by
  have htop := hT.top; have hcap := hT.cap; unfold maxLen at htop
  have HL := Lib.hid hT.len
  go_enter Try.func108, Try.ntmps108
  go_wp2_with fail
  go_loopw [8] (fun i wr => ∃ (k : Nat) (b : List UInt8), k ≤ n ∧ i = .int .i64 (k : Int) ∧ Hid (allB propB (t.take k) = some b) ∧ WR wr q (l ++ b) ∧ KW q w wr) (fun i _ => n - (intOf i).toNat)
  case atStart => exact ⟨0, [], Nat.zero_le _, rfl, Lib.hid rfl, by rw [List.append_nil]; exact h, KW.refl _ _⟩
  case round =>
    obtain ⟨k, b, hk, rfl, HA, hW, hK⟩ := hrel
    by_cases hlt : k < n
    · have hBr : Below w0.heap.size w0 wr := hB.trans (hK.below.mono hq)
      obtain ⟨ad, s, rfl, hs, hat0⟩ := hT.at_ hlt
      obtain ⟨A1, n1, c1, d0, d1, d2, d3, d4, d5, d6, d7, d8, d9, hsl⟩ := hat0
      have kk : ∀ {q : Addr} {v : Value}, w0.cell? q = some v → wr.cell? q = some v := fun {q v} e => (hBr.cell (World.block_lt_of_cell? w0 _ e)).trans e
      have c0 := kk d0; have c1' := kk d1; have c2' := kk d2; have c3 := kk d3; have c4 := kk d4; have c5 := kk d5; have c6 := kk d6; have c7 := kk d7; have c8 := kk d8; have c9 := kk d9
      have hun : s.leaf.un.length ≤ 1048576 := hf.out.2 s (List.mem_of_getElem? hs)
      have hln : s.leaf.un.length = n1 := by have := hsl.len; rwa [iv_length] at this
      have hbl : b.length ≤ k * 4194344 := by
        have := allB_len (f := propB) (k := 4194344) (l := t.take k) (fun x hx y hy => by
          have := propB_len hy
          have := hf.out.2 x (List.mem_of_mem_take hx)
          omega) HA.out
        have h2 : (t.take k).length ≤ k := by simp; omega
        exact Nat.le_trans this (Nat.mul_le_mul_right _ h2)
      have hkn : k ≤ 1048576 := by have := hf.out.1; have := HL.out; omega
      have hbit := hW.bit
      obtain ⟨gb, hgb⟩ : ∃ gb, wr.heap.size = gb := ⟨_, rfl⟩
      obtain ⟨wb, hwb⟩ : ∃ wb, wr.alloc (.cells (pc10 s A1 n1 c1) 109) = wb := ⟨_, rfl⟩
      have hzb : wb.heap.size = gb + 1 := by rw [← hwb]; simp [hgb]
      have hWb : WR wb q (l ++ b) := by rw [← hwb]; exact hW.alloc _
      have hKb : KW q w wb := by rw [← hwb]; exact hK.alloc (by omega) _
      have kb : wb.heap[gb]? = some (.cells (pc10 s A1 n1 c1) 109) := by rw [← hwb, ← hgb]; exact heap_alloc_new _ _
      obtain ⟨wc, hwc⟩ : ∃ wc, wb.alloc (.cells #[.int .i64 s.k, .int .i64 s.from_] 3) = wc := ⟨_, rfl⟩
      have hWc : WR wc q (l ++ b) := by rw [← hwc]; exact hWb.alloc _
      have hKc : KW q w wc := by rw [← hwc]; exact hKb.alloc (by omega) _
      have kc : wc.heap[gb]? = some (.cells (pc10 s A1 n1 c1) 109) := by rw [← hwc, Below.heap_alloc _ _ _ (by omega)]; exact kb
      have hrow : SlK wc q (some ⟨gb + 1, 0, none⟩) 2 2 (iv [s.k, s.from_]) := by
        have := SlK.lit wb q [s.k, s.from_] #[.int .i64 s.k, .int .i64 s.from_] rfl 2 rfl (by omega) (by omega)
        rwa [hwc, hzb] at this
      have HC := Lib.hid (wints_ok q (l ++ b) (some ⟨gb + 1, 0, none⟩) 2 2 [s.k, s.from_] wc hWc hrow (by show _ ≤ _; have := hl.out; simp; omega))
      have hslk : SlK wc q A1 n1 c1 (iv s.leaf.un) := SlK.from hsl (hBr.trans (by rw [← hwc, ← hwb]; exact ((Below.refl w0.heap.size wr).alloc hBr.size _).alloc (by have := hBr.size; simp; omega) _)) hq
      have HSK := Lib.hid hslk
      have HS := Lib.hid hs; have HKc := Lib.hid hKc; have KC := Lib.hid kc; have HWB := Lib.hid hwb; have HWC := Lib.hid hwc
      have i1 : (k : Int) < (n : Int) := by omega
      clear hs hsl hzb d0 d1 d2 d3 d4 d5 d6 d7 d8 d9 kk hWb hKb kb hWc hKc kc hrow hslk hwb hwc hK hBr hW
      have hbn := hl.out
      go_wp2_with fail
      rw [HWB.out, HWC.out]
      clear c0 c1' c2' c3 c4 c5 c6 c7 c8 c9
      refine HC.out.mono ?_
      rintro e w2 (⟨b2, h2, rfl, hW2, hK2⟩ | ⟨h2, rfl, hK2⟩)
      · have k2 := hK2.typed KC.out (by omega) (by decide)
        have hKx := HKc.out.trans hK2
        have hsk2 := HSK.out.kw hK2
        have hb2 : b2.length ≤ 8 := by have := nsI_len h2; simpa using this
        have HC2 := Lib.hid (wnode_ok q (l ++ b ++ b2) A1 n1 c1 s.leaf w2 hW2 hsk2 (by show _ ≤ _; simp; omega))
        have g2 := cell_of k2 2; have g3 := cell_of k2 3; have g4 := cell_of k2 4; have g5 := cell_of k2 5; have g6 := cell_of k2 6; have g7 := cell_of k2 7
        have H2 := Lib.hid h2; have HK2 := Lib.hid hKx; have K2 := Lib.hid k2
        unfold nv at HC2
        clear h2 hW2 hK2 k2 hKx hsk2
        go_wp2_with fail
        clear g2 g3 g4 g5 g6 g7
        refine HC2.out.mono ?_
        rintro e w3 (⟨b3, h3, rfl, hW3, hK3⟩ | ⟨h3, rfl, hK3⟩)
        · have k3 := hK3.typed K2.out (by omega) (by decide)
          have hKx := HK2.out.trans hK3
          have hb3 := nodeB_len h3
          have hbit3 := hW3.bit
          obtain ⟨w4, hw4⟩ : ∃ w4, w3.alloc (.cells #[.int .i64 s.at_, .int .i64 s.term] 3) = w4 := ⟨_, rfl⟩
          have hW4 : WR w4 q (l ++ b ++ b2 ++ b3) := by rw [← hw4]; exact hW3.alloc _
          have hrow : SlK w4 q (some ⟨w3.heap.size, 0, none⟩) 2 2 (iv [s.at_, s.term]) := by
            rw [← hw4]
            exact SlK.lit w3 q [s.at_, s.term] #[.int .i64 s.at_, .int .i64 s.term] rfl 2 rfl hbit3 (by omega)
          have HC3 := Lib.hid (wints_ok q (l ++ b ++ b2 ++ b3) (some ⟨w3.heap.size, 0, none⟩) 2 2 [s.at_, s.term] w4 hW4 hrow (by show _ ≤ _; simp; omega))
          have g8 := cell_of k3 8; have g9 := cell_of k3 9
          have HK4 := Lib.hid (show KW q w w4 by rw [← hw4]; exact hKx.alloc (Nat.le_of_lt hbit3) _)
          have H3 := Lib.hid h3; have HW4 := Lib.hid hw4
          clear h3 hW3 hK3 k3 hKx hw4 hW4 hrow
          go_wp2_with fail
          rw [HW4.out]
          clear g8 g9
          refine HC3.out.mono ?_
          rintro e w5 (⟨b4, h4, rfl, hW5, hK5⟩ | ⟨h4, rfl, hK5⟩)
          · have hp : propB s = some (b2 ++ (b3 ++ b4)) := by unfold propB; rw [H2.out, H3.out, h4, seqB_yes, seqB_yes]
            go_wp2_with fail
            go_roundw
            case rel => exact ⟨k + 1, b ++ (b2 ++ (b3 ++ b4)), by omega, by go_num, Lib.hid ((allB_take propB HS.out).trans (by rw [HA.out, hp, seqB_yes])), by simpa using hW5, HK4.out.trans hK5⟩
            case measure => simp [intOf]; omega
          · simp +zetaDelta [Exit.then, Exit.inBlock, bodyPost]
            exact .inr ⟨allB_none propB HS.out (propB_3 h4), rfl, HK4.out.trans hK5⟩
        · simp +zetaDelta [Exit.then, Exit.inBlock, bodyPost]
          exact .inr ⟨allB_none propB HS.out (propB_2 h3), rfl, HK2.out.trans hK3⟩
      · simp +zetaDelta [Exit.then, Exit.inBlock, bodyPost]
        exact .inr ⟨allB_none propB HS.out (propB_1 h2), rfl, HKc.out.trans hK2⟩
    · obtain rfl : k = n := by omega
      have HT : Hid (t.take k = t) := Lib.hid (by rw [← HL.out, List.take_length])
      go_wp2_with fail
      go_end0
      rw [HT.out] at HA
      exact .inl ⟨b, HA.out, rfl, hW, hK⟩
end Go.Proofs.Ytjebmmmjjiomfaa
