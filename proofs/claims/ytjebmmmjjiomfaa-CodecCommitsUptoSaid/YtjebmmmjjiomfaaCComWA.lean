/- The walks of a writer's proposals and path. The walks of a writer's path and commit, of codec.Commit. The walks of a writer's commit and of codec.Commit. -/
import Derived.Test.YtjebmmmjjiomfaaCMem
namespace Go.Proofs.Ytjebmmmjjiomfaa
open Go.RowKit

abbrev pc10 (s : PR) (A : Option Addr) (n c : Nat) : Array Value := #[.int .i64 s.k, .int .i64 s.from_, .int .i64 s.leaf.k, .int .i64 s.leaf.id, .int .i64 s.leaf.enc, .int .i64 s.leaf.sig, .int .i64 s.leaf.hash, .slice A n c, .int .i64 s.at_, .int .i64 s.term]
theorem propB_1 {s : PR} (h : nsI [s.k, s.from_] = none) : propB s = none := by unfold propB; rw [h]; rfl
theorem propB_2 {s : PR} (h : nodeB s.leaf = none) : propB s = none := by unfold propB; rw [h]; simp
theorem propB_3 {s : PR} (h : nsI [s.at_, s.term] = none) : propB s = none := by unfold propB; rw [h]; simp
set_option maxRecDepth 100000 in
set_option maxHeartbeats 4000000 in
/-- commit$1 -/
theorem wcommit1_ok (q g : Nat) (l : List UInt8) (A : Option Addr) (n c : Nat) (t : List PR) (w0 w : World) (h : WR w q l) (hT : Ps w0 A n c t) (hB : Below w0.heap.size w0 w) (hq : w0.heap.size ≤ q) (hg : w.cell? ⟨g, 2, none⟩ = some (.slice A n c))
    (hf : Hid (t.length ≤ 1048576 ∧ ∀ s ∈ t, s.leaf.un.length ≤ 1048576)) (hl : Hid (l.length ≤ 1073741824)) :
    Calls Try.prog 108 #[.pointer (some ⟨q, 0, none⟩), .pointer (some ⟨g, 0, none⟩)] w (WEnd q l (allB propB t) w) := by
  have htop := hT.top; have hcap := hT.cap; unfold maxLen at htop
  have HL := Lib.hid hT.len
  go_enter Try.func108, Try.ntmps108
  go_wp2_with fail
  go_loopw [8] (fun i wr => ∃ (k : Nat) (b : List UInt8), k ≤ n ∧ i = .int .i64 (k : Int) ∧ Hid (allB propB (t.take k) = some b) ∧ WR wr q (l ++ b) ∧ KW q w wr) (fun i _ => n - (intOf i).toNat)
  case atStart => exact ⟨0, [], Nat.zero_le _, rfl, Lib.hid rfl, by rw [List.append_nil]; exact h, KW.refl _ _⟩
  case round =>
    obtain ⟨k, b, hk, rfl, HA, hW, hK⟩ := hrel
    by_cases hlt : k < n
    · have hBr : Below w0.heap.size w0 wr := hB.trans (hK.below.mono hq)
      obtain ⟨ad, s, rfl, hs, hat0⟩ := hT.at_ hlt
      obtain ⟨A1, n1, c1, d0, d1, d2, d3, d4, d5, d6, d7, d8, d9, hsl⟩ := hat0
      have kk : ∀ {q : Addr} {v : Value}, w0.cell? q = some v → wr.cell? q = some v := fun {q v} e => (hBr.cell (World.block_lt_of_cell? w0 _ e)).trans e
      have c0 := kk d0; have c1' := kk d1; have c2' := kk d2; have c3 := kk d3; have c4 := kk d4; have c5 := kk d5; have c6 := kk d6; have c7 := kk d7; have c8 := kk d8; have c9 := kk d9
      have hun : s.leaf.un.length ≤ 1048576 := hf.out.2 s (List.mem_of_getElem? hs)
      have hln : s.leaf.un.length = n1 := by have := hsl.len; rwa [iv_length] at this
      have hbl : b.length ≤ k * 4194344 := by
        have := allB_len (f := propB) (k := 4194344) (l := t.take k) (fun x hx y hy => by
          have := propB_len hy
          have := hf.out.2 x (List.mem_of_mem_take hx)
          omega) HA.out
        have h2 : (t.take k).length ≤ k := by simp; omega
        exact Nat.le_trans this (Nat.mul_le_mul_right _ h2)
      have hkn : k ≤ 1048576 := by have := hf.out.1; have := HL.out; omega
      have hbit := hW.bit
      obtain ⟨gb, hgb⟩ : ∃ gb, wr.heap.size = gb := ⟨_, rfl⟩
      obtain ⟨wb, hwb⟩ : ∃ wb, wr.alloc (.cells (pc10 s A1 n1 c1) 109) = wb := ⟨_, rfl⟩
      have hzb : wb.heap.size = gb + 1 := by rw [← hwb]; simp [hgb]
      have hWb : WR wb q (l ++ b) := by rw [← hwb]; exact hW.alloc _
      have hKb : KW q w wb := by rw [← hwb]; exact hK.alloc (by omega) _
      have kb : wb.heap[gb]? = some (.cells (pc10 s A1 n1 c1) 109) := by rw [← hwb, ← hgb]; exact heap_alloc_new _ _
      obtain ⟨wc, hwc⟩ : ∃ wc, wb.alloc (.cells #[.int .i64 s.k, .int .i64 s.from_] 3) = wc := ⟨_, rfl⟩
      have hWc : WR wc q (l ++ b) := by rw [← hwc]; exact hWb.alloc _
      have hKc : KW q w wc := by rw [← hwc]; exact hKb.alloc (by omega) _
      have kc : wc.heap[gb]? = some (.cells (pc10 s A1 n1 c1) 109) := by rw [← hwc, Below.heap_alloc _ _ _ (by omega)]; exact kb
      have hrow : SlK wc q (some ⟨gb + 1, 0, none⟩) 2 2 (iv [s.k, s.from_]) := by
        have := SlK.lit wb q [s.k, s.from_] #[.int .i64 s.k, .int .i64 s.from_] rfl 2 rfl (by omega) (by omega)
        rwa [hwc, hzb] at this
      have HC := Lib.hid (wints_ok q (l ++ b) (some ⟨gb + 1, 0, none⟩) 2 2 [s.k, s.from_] wc hWc hrow (by show _ ≤ _; have := hl.out; simp; omega))
      have hslk : SlK wc q A1 n1 c1 (iv s.leaf.un) := SlK.from hsl (hBr.trans (by rw [← hwc, ← hwb]; exact ((Below.refl w0.heap.size wr).alloc hBr.size _).alloc (by have := hBr.size; simp; omega) _)) hq
      have HSK := Lib.hid hslk
      have HS := Lib.hid hs; have HKc := Lib.hid hKc; have KC := Lib.hid kc; have HWB := Lib.hid hwb; have HWC := Lib.hid hwc
      have i1 : (k : Int) < (n : Int) := by omega
      clear hs hsl hzb d0 d1 d2 d3 d4 d5 d6 d7 d8 d9 kk hWb hKb kb hWc hKc kc hrow hslk hwb hwc hK hBr hW
      have hbn := hl.out
      go_wp2_with fail
      rw [HWB.out, HWC.out]
      clear c0 c1' c2' c3 c4 c5 c6 c7 c8 c9
      refine HC.out.mono ?_
      rintro e w2 (⟨b2, h2, rfl, hW2, hK2⟩ | ⟨h2, rfl, hK2⟩)
      · have k2 := hK2.typed KC.out (by omega) (by decide)
        have hKx := HKc.out.trans hK2
        have hsk2 := HSK.out.kw hK2
        have hb2 : b2.length ≤ 8 := by have := nsI_len h2; simpa using this
        have HC2 := Lib.hid (wnode_ok q (l ++ b ++ b2) A1 n1 c1 s.leaf w2 hW2 hsk2 (by show _ ≤ _; simp; omega))
        have g2 := cell_of k2 2; have g3 := cell_of k2 3; have g4 := cell_of k2 4; have g5 := cell_of k2 5; have g6 := cell_of k2 6; have g7 := cell_of k2 7
        have H2 := Lib.hid h2; have HK2 := Lib.hid hKx; have K2 := Lib.hid k2
        unfold nv at HC2
        clear h2 hW2 hK2 k2 hKx hsk2
        go_wp2_with fail
        clear g2 g3 g4 g5 g6 g7
        refine HC2.out.mono ?_
        rintro e w3 (⟨b3, h3, rfl, hW3, hK3⟩ | ⟨h3, rfl, hK3⟩)
        · have k3 := hK3.typed K2.out (by omega) (by decide)
          have hKx := HK2.out.trans hK3
          have hb3 := nodeB_len h3
          have hbit3 := hW3.bit
          obtain ⟨w4, hw4⟩ : ∃ w4, w3.alloc (.cells #[.int .i64 s.at_, .int .i64 s.term] 3) = w4 := ⟨_, rfl⟩
          have hW4 : WR w4 q (l ++ b ++ b2 ++ b3) := by rw [← hw4]; exact hW3.alloc _
          have hrow : SlK w4 q (some ⟨w3.heap.size, 0, none⟩) 2 2 (iv [s.at_, s.term]) := by
            rw [← hw4]
            exact SlK.lit w3 q [s.at_, s.term] #[.int .i64 s.at_, .int .i64 s.term] rfl 2 rfl hbit3 (by omega)
          have HC3 := Lib.hid (wints_ok q (l ++ b ++ b2 ++ b3) (some ⟨w3.heap.size, 0, none⟩) 2 2 [s.at_, s.term] w4 hW4 hrow (by show _ ≤ _; simp; omega))
          have g8 := cell_of k3 8; have g9 := cell_of k3 9
          have HK4 := Lib.hid (show KW q w w4 by rw [← hw4]; exact hKx.alloc (Nat.le_of_lt hbit3) _)
          have H3 := Lib.hid h3; have HW4 := Lib.hid hw4
          clear h3 hW3 hK3 k3 hKx hw4 hW4 hrow
          go_wp2_with fail
          rw [HW4.out]
          clear g8 g9
          refine HC3.out.mono ?_
          rintro e w5 (⟨b4, h4, rfl, hW5, hK5⟩ | ⟨h4, rfl, hK5⟩)
          · have hp : propB s = some (b2 ++ (b3 ++ b4)) := by unfold propB; rw [H2.out, H3.out, h4, seqB_yes, seqB_yes]
            go_wp2_with fail
            go_roundw
            case rel => exact ⟨k + 1, b ++ (b2 ++ (b3 ++ b4)), by omega, by go_num, Lib.hid ((allB_take propB HS.out).trans (by rw [HA.out, hp, seqB_yes])), by simpa using hW5, HK4.out.trans hK5⟩
            case measure => simp [intOf]; omega
          · simp +zetaDelta [Exit.then, Exit.inBlock, bodyPost]
            exact .inr ⟨allB_none propB HS.out (propB_3 h4), rfl, HK4.out.trans hK5⟩
        · simp +zetaDelta [Exit.then, Exit.inBlock, bodyPost]
          exact .inr ⟨allB_none propB HS.out (propB_2 h3), rfl, HK2.out.trans hK3⟩
      · simp +zetaDelta [Exit.then, Exit.inBlock, bodyPost]
        exact .inr ⟨allB_none propB HS.out (propB_1 h2), rfl, HKc.out.trans hK2⟩
    · obtain rfl : k = n := by omega
      have HT : Hid (t.take k = t) := Lib.hid (by rw [← HL.out, List.take_length])
      go_wp2_with fail
      go_end0
      rw [HT.out] at HA
      exact .inl ⟨b, HA.out, rfl, hW, hK⟩
theorem pnB_1 {s : PN} (h : nsI [s.enc] = none) : pnB' s = none := by unfold pnB'; rw [h]; rfl
theorem pnB_2 {s : PN} (h : (nsI s.seals).bind vecB = none) : pnB' s = none := by unfold pnB'; rw [h]; simp
set_option maxRecDepth 100000 in
set_option maxHeartbeats 4000000 in
/-- path$1 -/
theorem wpath1_ok (q g : Nat) (l : List UInt8) (A : Option Addr) (n c : Nat) (t : List PN) (w0 w : World) (h : WR w q l) (hT : Ns w0 A n c t) (hB : Below w0.heap.size w0 w) (hq : w0.heap.size ≤ q) (hg : w.cell? ⟨g, 6, none⟩ = some (.slice A n c))
    (hf : Hid (t.length ≤ 1048576 ∧ ∀ s ∈ t, s.seals.length ≤ 1048576)) (hl : Hid (l.length ≤ 1073741824)) :
    Calls Try.prog 118 #[.pointer (some ⟨q, 0, none⟩), .pointer (some ⟨g, 0, none⟩)] w (WEnd q l (allB pnB' t) w) := by
  have htop := hT.top; have hcap := hT.cap; unfold maxLen at htop
  have HL := Lib.hid hT.len
  go_enter Try.func118, Try.ntmps118
  go_wp2_with fail
  go_loopw [8] (fun i wr => ∃ (k : Nat) (b : List UInt8), k ≤ n ∧ i = .int .i64 (k : Int) ∧ Hid (allB pnB' (t.take k) = some b) ∧ WR wr q (l ++ b) ∧ KW q w wr) (fun i _ => n - (intOf i).toNat)
  case atStart => exact ⟨0, [], Nat.zero_le _, rfl, Lib.hid rfl, by rw [List.append_nil]; exact h, KW.refl _ _⟩
  case round =>
    obtain ⟨k, b, hk, rfl, HA, hW, hK⟩ := hrel
    by_cases hlt : k < n
    · have hBr : Below w0.heap.size w0 wr := hB.trans (hK.below.mono hq)
      obtain ⟨ad, s, rfl, hs, hat0⟩ := hT.at_ hlt
      obtain ⟨A1, n1, c1, d0, d1, hsl⟩ := hat0
      have kk : ∀ {q : Addr} {v : Value}, w0.cell? q = some v → wr.cell? q = some v := fun {q v} e => (hBr.cell (World.block_lt_of_cell? w0 _ e)).trans e
      have c0 := kk d0; have c1' := kk d1
      have hun : s.seals.length ≤ 1048576 := hf.out.2 s (List.mem_of_getElem? hs)
      have hln : s.seals.length = n1 := by have := hsl.len; rwa [iv_length] at this
      have hbl : b.length ≤ k * 4194344 := by
        have := allB_len (f := pnB') (k := 4194344) (l := t.take k) (fun x hx y hy => by
          have := pnB'_len hy
          have := hf.out.2 x (List.mem_of_mem_take hx)
          omega) HA.out
        have h2 : (t.take k).length ≤ k := by simp; omega
        exact Nat.le_trans this (Nat.mul_le_mul_right _ h2)
      have hkn : k ≤ 1048576 := by have := hf.out.1; have := HL.out; omega
      have hbit := hW.bit
      obtain ⟨gb, hgb⟩ : ∃ gb, wr.heap.size = gb := ⟨_, rfl⟩
      obtain ⟨wb, hwb⟩ : ∃ wb, wr.alloc (.cells #[.int .i64 s.enc, .slice A1 n1 c1] 111) = wb := ⟨_, rfl⟩
      have hzb : wb.heap.size = gb + 1 := by rw [← hwb]; simp [hgb]
      have hWb : WR wb q (l ++ b) := by rw [← hwb]; exact hW.alloc _
      have hKb : KW q w wb := by rw [← hwb]; exact hK.alloc (by omega) _
      have kb : wb.heap[gb]? = some (.cells #[.int .i64 s.enc, .slice A1 n1 c1] 111) := by rw [← hwb, ← hgb]; exact heap_alloc_new _ _
      obtain ⟨wc, hwc⟩ : ∃ wc, wb.alloc (.cells #[.int .i64 s.enc] 3) = wc := ⟨_, rfl⟩
      have hWc : WR wc q (l ++ b) := by rw [← hwc]; exact hWb.alloc _
      have hKc : KW q w wc := by rw [← hwc]; exact hKb.alloc (by omega) _
      have kc : wc.heap[gb]? = some (.cells #[.int .i64 s.enc, .slice A1 n1 c1] 111) := by rw [← hwc, Below.heap_alloc _ _ _ (by omega)]; exact kb
      have hrow : SlK wc q (some ⟨gb + 1, 0, none⟩) 1 1 (iv [s.enc]) := by
        have := SlK.lit wb q [s.enc] #[.int .i64 s.enc] rfl 1 rfl (by omega) (by omega)
        rwa [hwc, hzb] at this
      have HC := Lib.hid (wints_ok q (l ++ b) (some ⟨gb + 1, 0, none⟩) 1 1 [s.enc] wc hWc hrow (by show _ ≤ _; have := hl.out; simp; omega))
      have hslk : SlK wc q A1 n1 c1 (iv s.seals) := SlK.from hsl (hBr.trans (by rw [← hwc, ← hwb]; exact ((Below.refl w0.heap.size wr).alloc hBr.size _).alloc (by have := hBr.size; simp; omega) _)) hq
      have HSK := Lib.hid hslk
      have HS := Lib.hid hs; have HKc := Lib.hid hKc; have KC := Lib.hid kc; have HWB := Lib.hid hwb; have HWC := Lib.hid hwc
      have i1 : (k : Int) < (n : Int) := by omega
      clear hs hsl hzb d0 d1 kk hWb hKb kb hWc hKc kc hrow hslk hwb hwc hK hBr hW
      have hbn := hl.out
      go_wp2_with fail
      rw [HWB.out, HWC.out]
      clear c0 c1'
      refine HC.out.mono ?_
      rintro e w2 (⟨b2, h2, rfl, hW2, hK2⟩ | ⟨h2, rfl, hK2⟩)
      · have k2 := hK2.typed KC.out (by omega) (by decide)
        have hKx := HKc.out.trans hK2
        have hsk2 := HSK.out.kw hK2
        have hb2 : b2.length ≤ 4 := by have := nsI_len h2; simpa using this
        have HC2 := Lib.hid (wlist_ok q (l ++ b ++ b2) A1 n1 c1 s.seals w2 hW2 hsk2.1 (by show _ ≤ _; simp; omega))
        have g1 := cell_of k2 1
        have H2 := Lib.hid h2; have HK2 := Lib.hid hKx
        clear h2 hW2 hK2 k2 hKx hsk2
        go_wp2_with fail
        clear g1
        refine HC2.out.mono ?_
        rintro e w3 (⟨b3, h3, rfl, hW3, hK3⟩ | ⟨h3, rfl, hK3⟩)
        · have hp : pnB' s = some (b2 ++ b3) := by unfold pnB'; rw [H2.out, h3, seqB_yes]
          go_wp2_with fail
          go_roundw
          case rel => exact ⟨k + 1, b ++ (b2 ++ b3), by omega, by go_num, Lib.hid ((allB_take pnB' HS.out).trans (by rw [HA.out, hp, seqB_yes])), by simpa using hW3, HK2.out.trans hK3⟩
          case measure => simp [intOf]; omega
        · simp +zetaDelta [Exit.then, Exit.inBlock, bodyPost]
          exact .inr ⟨allB_none pnB' HS.out (pnB_2 h3), rfl, HK2.out.trans hK3⟩
      · simp +zetaDelta [Exit.then, Exit.inBlock, bodyPost]
        exact .inr ⟨allB_none pnB' HS.out (pnB_1 h2), rfl, HKc.out.trans hK2⟩
    · obtain rfl : k = n := by omega
      have HT : Hid (t.take k = t) := Lib.hid (by rw [← HL.out, List.take_length])
      go_wp2_with fail
      go_end0
      rw [HT.out] at HA
      exact .inl ⟨b, HA.out, rfl, hW, hK⟩
theorem cf118 (args : Array Value) (w : World) : (callFunc 118 args).run Try.prog w = .ok (.enter 118 args) w := by kernel_rfl
/-- a path's seven cells -/
abbrev pc7 (s : TN) (A : Option Addr) (n c : Nat) (B : Option Addr) (m d : Nat) : Array Value := #[.int .i64 s.k, .int .i64 s.id, .int .i64 s.enc, .int .i64 s.sig, .int .i64 s.hash, .slice A n c, .slice B m d]
theorem pathB_eq (s : TN) (t : List PN) : pathB s t = seqB (nodeB s) ((allB pnB' t).bind vecB) := rfl
theorem nodeB_le {s : TN} {b : List UInt8} (h : nodeB s = some b) (hn : s.un.length ≤ 1048576) : b.length ≤ 4194328 := by have := nodeB_len h; omega
set_option maxRecDepth 100000 in
set_option maxHeartbeats 4000000 in
theorem wpath_ok (p : Nat) (l : List UInt8) (s : TN) (A : Option Addr) (n c : Nat) (t : List PN) (B : Option Addr) (m d : Nat) (w0 w : World) (h : WR w p l) (hs : Sl w0 A n c (iv s.un)) (hT : Ns w0 B m d t) (hB : Below w0.heap.size w0 w) (hq : w0.heap.size ≤ p)
    (hf : Hid (t.length ≤ 1048576 ∧ ∀ s ∈ t, s.seals.length ≤ 1048576)) (hun : Hid (s.un.length ≤ 1048576)) (hl : Hid (l.length ≤ 2147484000)) :
    Calls Try.prog 109 #[.pointer (some ⟨p, 0, none⟩), .agg (pc7 s A n c B m d)] w (WEnd p l (pathB s t) w) := by
  have hmf := hmfT
  have hpw := h.bit
  have hln : s.un.length = n := by have := hs.len; rwa [iv_length] at this
  obtain ⟨g, hg⟩ : ∃ g, w.heap.size = g := ⟨_, rfl⟩
  obtain ⟨wb, hwb⟩ : ∃ wb, w.alloc (.cells (pc7 s A n c B m d) 70) = wb := ⟨_, rfl⟩
  have hWb : WR wb p l := by rw [← hwb]; exact h.alloc _
  have hKb : KW p w wb := by rw [← hwb]; exact (KW.refl p w).alloc (by omega) _
  have k0 : wb.heap[g]? = some (.cells (pc7 s A n c B m d) 70) := by rw [← hwb, ← hg]; exact heap_alloc_new _ _
  have hBb : Below w0.heap.size w0 wb := hB.trans (hKb.below.mono hq)
  have HC := Lib.hid (wnode_ok p l A n c s wb hWb (SlK.from hs hBb hq) (by show _ ≤ _; have := hl.out; have := hun.out; omega))
  have HKB := Lib.hid hKb; have K0 := Lib.hid k0; have HWB := Lib.hid hwb; have HB := Lib.hid hBb; have HT := Lib.hid hT
  have hpg : p < g := by omega
  unfold nv at HC
  clear hwb hWb hKb k0 hBb hB h hs hT
  go_enter Try.func109, Try.ntmps109
  go_wp2_with fail
  rw [HWB.out]
  refine HC.out.mono ?_
  rintro e w1 (⟨b, h1, rfl, hW1, hK1⟩ | ⟨h1, rfl, hK1⟩)
  · have k1 := hK1.typed K0.out (by omega) (by decide)
    have hKx := HKB.out.trans hK1
    have hB1 : Below w0.heap.size w0 w1 := HB.out.trans (hK1.below.mono hq)
    have hbl := nodeB_le h1 hun.out
    have hbit := hW1.bit
    have hin : Calls Try.prog 118 #[.pointer (some ⟨w1.heap.size, 0, none⟩), .pointer (some ⟨g, 0, none⟩)] (w1.alloc (.cells #[.slice none 0 0] 126)) (WEnd w1.heap.size [] (allB pnB' t) (w1.alloc (.cells #[.slice none 0 0] 126))) :=
      wpath1_ok _ g [] B m d t w0 _ (WR.new w1) HT.out (hB1.alloc hB1.size _) (by have := hB1.size; omega) (cell_of ((Below.heap_alloc w1 _ g (by have := (Array.getElem?_eq_some_iff.1 k1).1; omega)).trans k1) 6) hf (by show _ ≤ _; simp)
    have HV := Lib.hid (wvec_ok p (l ++ b) 118 #[.pointer (some ⟨g, 0, none⟩)] (allB pnB' t) w1 hW1 (by show _ ≤ _; have := hl.out; simp; omega) cf118 hin)
    have H1 := Lib.hid h1; have HKX := Lib.hid hKx
    clear h1 hW1 hK1 k1 hKx hB1 hin
    go_wp2_with fail
    refine HV.out.mono ?_
    rintro e w2 (⟨b2, h2, rfl, hW2, hK2⟩ | ⟨h2, rfl, hK2⟩)
    · go_wp2_with fail
      go_end0
      exact .inl ⟨b ++ b2, by rw [pathB_eq, H1.out, h2, seqB_yes], rfl, by rw [← List.append_assoc]; exact hW2, HKX.out.trans hK2⟩
    · simp [bodyPost]
      exact .inr ⟨by rw [pathB_eq, h2, seqB_none'], rfl, HKX.out.trans hK2⟩
  · simp [bodyPost]
    exact .inr ⟨by rw [pathB_eq, h1, seqB_none], rfl, HKB.out.trans hK1⟩
theorem cf108 (args : Array Value) (w : World) : (callFunc 108 args).run Try.prog w = .ok (.enter 108 args) w := by kernel_rfl
theorem few_szC {x : CM} (h : szC x ≤ 1048576) : (x.props.length ≤ 1048576 ∧ ∀ s ∈ x.props, s.leaf.un.length ≤ 1048576) ∧ (x.nodes.length ≤ 1048576 ∧ ∀ s ∈ x.nodes, s.seals.length ≤ 1048576) ∧ x.leaf.un.length ≤ 1048576 := by
  unfold szC at h
  refine ⟨⟨by omega, fun s hs => ?_⟩, ⟨by omega, fun s hs => ?_⟩, by omega⟩
  · have := sum_mem (fun p : PR => p.leaf.un.length) hs
    omega
  · have := sum_mem (fun p : PN => p.seals.length) hs
    omega
/-- the end of a commit's bytes -/
def tailB (x : CM) : Option (List UInt8) := if x.has then seqB (nsI [1]) (pathB x.leaf x.nodes) else if zeroN x.leaf ∧ x.nodes = [] then nsI [0] else none
theorem commitB_eq (x : CM) : commitB x = seqB (nsI [x.by_, x.epoch]) (seqB ((allB propB x.props).bind vecB) (seqB (nsI [x.sig, x.tag]) (tailB x))) := rfl
theorem commitB_1 {x : CM} (h : nsI [x.by_, x.epoch] = none) : commitB x = none := by rw [commitB_eq, h]; rfl
theorem commitB_2 {x : CM} (h : (allB propB x.props).bind vecB = none) : commitB x = none := by rw [commitB_eq, h]; simp
theorem commitB_3 {x : CM} (h : nsI [x.sig, x.tag] = none) : commitB x = none := by rw [commitB_eq, h]; simp
theorem commitB_4 {x : CM} (h : tailB x = none) : commitB x = none := by rw [commitB_eq, h]; simp
theorem commitB_5 {x : CM} {a b c d : List UInt8} (h1 : nsI [x.by_, x.epoch] = some a) (h2 : (allB propB x.props).bind vecB = some b) (h3 : nsI [x.sig, x.tag] = some c) (h4 : tailB x = some d) : commitB x = some (a ++ (b ++ (c ++ d))) := by
  rw [commitB_eq, h1, h2, h3, h4, seqB_yes, seqB_yes, seqB_yes]
theorem zeroN_iff (s : TN) : zeroN s ↔ s = zN := by
  obtain ⟨a, b, c, d, e, f⟩ := s
  simp [zeroN, zN]
set_option maxRecDepth 100000 in
set_option maxHeartbeats 8000000 in
theorem wcommit_ok (p : Nat) (x : CM) (P : CP) (w0 w : World) (h : WR w p []) (hM : CMem w0 x P) (hB : Below w0.heap.size w0 w) (hq : w0.heap.size ≤ p) (hz : Hid (szC x ≤ 1048576)) :
    Calls Try.prog 78 #[.pointer (some ⟨p, 0, none⟩), cv x P] w (WEnd p [] (commitB x) w) := by
  have hmf := hmfT
  have hpw := h.bit
  have hfew := few_szC hz.out
  have F1 := Lib.hid hfew.1; have F2 := Lib.hid hfew.2.1; have F3 := Lib.hid hfew.2.2
  obtain ⟨g, hg⟩ : ∃ g, w.heap.size = g := ⟨_, rfl⟩
  obtain ⟨wb, hwb⟩ : ∃ wb, w.alloc (.cells (cc x P) 72) = wb := ⟨_, rfl⟩
  have hzb : wb.heap.size = g + 1 := by rw [← hwb]; simp [hg]
  have hWb : WR wb p [] := by rw [← hwb]; exact h.alloc _
  have hKb : KW p w wb := by rw [← hwb]; exact (KW.refl p w).alloc (by omega) _
  have k0 : wb.heap[g]? = some (.cells (cc x P) 72) := by rw [← hwb, ← hg]; exact heap_alloc_new _ _
  obtain ⟨wr, hwr⟩ : ∃ wr, wb.alloc (.cells #[.int .i64 x.by_, .int .i64 x.epoch] 3) = wr := ⟨_, rfl⟩
  have hWr : WR wr p [] := by rw [← hwr]; exact hWb.alloc _
  have hKr : KW p w wr := by rw [← hwr]; exact hKb.alloc (by omega) _
  have k1 : wr.heap[g]? = some (.cells (cc x P) 72) := by rw [← hwr, Below.heap_alloc _ _ _ (by omega)]; exact k0
  have hrow : SlK wr p (some ⟨g + 1, 0, none⟩) 2 2 (iv [x.by_, x.epoch]) := by
    have := SlK.lit wb p [x.by_, x.epoch] #[.int .i64 x.by_, .int .i64 x.epoch] rfl 2 rfl (by omega) (by omega)
    rwa [hwr, hzb] at this
  have HC := Lib.hid (wints_ok p [] (some ⟨g + 1, 0, none⟩) 2 2 [x.by_, x.epoch] wr hWr hrow (by show _ ≤ _; simp))
  have HKR := Lib.hid hKr; have K1 := Lib.hid k1; have HWB := Lib.hid hwb; have HWR := Lib.hid hwr; have HB := Lib.hid hB; have HM := Lib.hid hM
  have hpg : p < g := by omega
  clear hzb hWb hKb k0 hWr hKr k1 hrow hwb hwr hB h hM hfew
  unfold cv
  go_enter Try.func78, Try.ntmps78
  go_wp2_with fail
  rw [HWB.out, HWR.out]
  refine HC.out.mono ?_
  rintro e w1 (⟨b, h1, rfl, hW1, hK⟩ | ⟨h1, rfl, hK⟩)
  · have kg := hK.typed K1.out (by omega) (by decide)
    have hK1 := HKR.out.trans hK
    have hB1 : Below w0.heap.size w0 w1 := HB.out.trans (hK1.below.mono hq)
    have hgs := (Array.getElem?_eq_some_iff.1 kg).1
    have hin : Calls Try.prog 108 #[.pointer (some ⟨w1.heap.size, 0, none⟩), .pointer (some ⟨g, 0, none⟩)] (w1.alloc (.cells #[.slice none 0 0] 126)) (WEnd w1.heap.size [] (allB propB x.props) (w1.alloc (.cells #[.slice none 0 0] 126))) :=
      wcommit1_ok _ g [] P.pA P.pn P.pc x.props w0 _ (WR.new w1) HM.out.ps (hB1.alloc hB1.size _) (by have := hB1.size; omega) (cell_of ((Below.heap_alloc w1 _ g (by omega)).trans kg) 2) F1 (by show _ ≤ _; simp)
    have hb1 : b.length ≤ 8 := by have := nsI_len h1; simpa using this
    have HV := Lib.hid (wvec_ok p ([] ++ b) 108 #[.pointer (some ⟨g, 0, none⟩)] (allB propB x.props) w1 hW1 (by show _ ≤ _; simp; omega) cf108 hin)
    have H1 := Lib.hid h1; have HK1 := Lib.hid hK1; have KG := Lib.hid kg
    clear h1 hW1 hK hK1 kg hB1 hgs hin
    go_wp2_with fail
    refine HV.out.mono ?_
    rintro e w2 (⟨b2, h2, rfl, hW2, hK2⟩ | ⟨h2, rfl, hK2⟩)
    · have kg := hK2.typed KG.out (by omega) (by decide)
      have hK3 := HK1.out.trans hK2
      have hbit2 := hW2.bit
      have hb2 : b2.length ≤ 1073741828 := by
        obtain ⟨u, _, h9⟩ := bindB_some h2
        exact vecB_len h9
      obtain ⟨w3, hw3⟩ : ∃ w3, w2.alloc (.cells #[.int .i64 x.sig, .int .i64 x.tag] 3) = w3 := ⟨_, rfl⟩
      have hW3 : WR w3 p ([] ++ b ++ b2) := by rw [← hw3]; exact hW2.alloc _
      have hrow : SlK w3 p (some ⟨w2.heap.size, 0, none⟩) 2 2 (iv [x.sig, x.tag]) := by
        rw [← hw3]
        exact SlK.lit w2 p [x.sig, x.tag] #[.int .i64 x.sig, .int .i64 x.tag] rfl 2 rfl hbit2 (by omega)
      have HC3 := Lib.hid (wints_ok p ([] ++ b ++ b2) (some ⟨w2.heap.size, 0, none⟩) 2 2 [x.sig, x.tag] w3 hW3 hrow (by show _ ≤ _; simp; omega))
      have k3 : w3.heap[g]? = some (.cells (cc x P) 72) := by rw [← hw3, Below.heap_alloc _ _ _ (by have := (Array.getElem?_eq_some_iff.1 kg).1; omega)]; exact kg
      have g11 := cell_of kg 11; have g12 := cell_of kg 12
      have HK4 := Lib.hid (show KW p w w3 by rw [← hw3]; exact hK3.alloc (Nat.le_of_lt hbit2) _)
      have H2 := Lib.hid h2; have HW3 := Lib.hid hw3; have K3 := Lib.hid k3
      clear h2 hW2 hK2 hK3 kg hw3 hW3 hrow k3
      go_wp2_with fail
      rw [HW3.out]
      clear g11 g12
      refine HC3.out.mono ?_
      rintro e w4 (⟨b3, h3, rfl, hW4, hK4⟩ | ⟨h3, rfl, hK4⟩)
      · have kg := hK4.typed K3.out (by omega) (by decide)
        have hK5 := HK4.out.trans hK4
        have hbit4 := hW4.bit
        have hb3 : b3.length ≤ 8 := by have := nsI_len h3; simpa using this
        have hg4 := (Array.getElem?_eq_some_iff.1 kg).1
        have g3 := cell_of kg 3
        obtain ⟨hs, hhs⟩ : ∃ hs, x.has = hs := ⟨_, rfl⟩
        have HHS := Lib.hid hhs
        rw [show (cc x P)[3]? = some (.bool x.has) from rfl, hhs] at g3
        cases hs
        · obtain ⟨w5, hw5⟩ : ∃ w5, w4.alloc (.cells #[.int .i64 0] 3) = w5 := ⟨_, rfl⟩
          have hW5 : WR w5 p ([] ++ b ++ b2 ++ b3) := by rw [← hw5]; exact hW4.alloc _
          have hrow : SlK w5 p (some ⟨w4.heap.size, 0, none⟩) 1 1 (iv [0]) := by
            rw [← hw5]; exact SlK.lit w4 p [0] #[.int .i64 0] rfl 1 rfl hbit4 (by omega)
          have HC5 := Lib.hid (wints_ok p ([] ++ b ++ b2 ++ b3) (some ⟨w4.heap.size, 0, none⟩) 1 1 [0] w5 hW5 hrow (by show _ ≤ _; simp; omega))
          have k5 : w5.heap[g]? = some (.cells (cc x P) 72) := by rw [← hw5, Below.heap_alloc _ _ _ (by omega)]; exact kg
          have HK5 := Lib.hid (show KW p w w5 by rw [← hw5]; exact hK5.alloc (Nat.le_of_lt hbit4) _)
          have H3 := Lib.hid h3; have HW5 := Lib.hid hw5; have K5 := Lib.hid k5
          clear h3 hW4 hK4 hK5 kg hw5 hW5 hrow k5 hhs
          go_wp2_with fail
          rw [HW5.out]
          clear g3
          refine HC5.out.mono ?_
          rintro e w6 (⟨b4, h4, rfl, hW6, hK6⟩ | ⟨h4, rfl, hK6⟩)
          · have kg := hK6.typed K5.out (by omega) (by decide)
            have hK7 := HK5.out.trans hK6
            have hB6 : Below w0.heap.size w0 w6 := HB.out.trans (hK7.below.mono hq)
            have HS := Lib.hid (same_any P.lA none P.ln 0 P.lc 0 x.leaf zN w6 (HM.out.un.below hB6) (Sl.none _))
            have hbit6 := hW6.bit
            have hnl : x.nodes.length = P.nn := HM.out.ns.len
            have hg6 := (Array.getElem?_eq_some_iff.1 kg).1
            have g4 := cell_of kg 4; have g5 := cell_of kg 5; have g6 := cell_of kg 6; have g7 := cell_of kg 7; have g8 := cell_of kg 8; have g9 := cell_of kg 9
            have HW6 := Lib.hid hW6; have HK7 := Lib.hid hK7; have H4 := Lib.hid h4; have KG := Lib.hid kg; have HNL := Lib.hid hnl
            unfold nv at HS
            have hfin : ∀ v : Bool, v = decide (zeroN x.leaf ∧ x.nodes = []) → tailB x = if v then some b4 else none := fun v hv => by
              unfold tailB
              rw [HHS.out, if_neg (by decide), hv]
              by_cases e : zeroN x.leaf ∧ x.nodes = []
              · rw [if_pos e, decide_eq_true e, H4.out]; rfl
              · rw [if_neg e, decide_eq_false e]; rfl
            have HFIN := Lib.hid hfin
            clear h4 hW6 hK6 hK7 kg hB6 hnl hfin
            by_cases hzn : x.leaf = zN
            · rw [sameN_yes hzn] at HS
              have hz0 := (zeroN_iff x.leaf).2 hzn
              have HZ0 := Lib.hid hz0
              clear hzn hz0
              by_cases hnn : P.nn = 0
              · have HT4 : Hid (tailB x = some b4) := Lib.hid (HFIN.out true (decide_eq_true ⟨HZ0.out, List.eq_nil_of_length_eq_zero (by rw [HNL.out, hnn])⟩).symm)
                go_wp2_with (first
                  | (go_at_call 110; refine HS.out.mono ?_; rintro e w7 ⟨rfl, hB7⟩; have g10 := cell_of ((hB7.block g hg6).trans KG.out) 10)
                  | (go_at_call 85; refine (must_ok _).mono ?_; rintro e w1 ⟨rfl, rfl⟩))
                go_end0
                refine .inl ⟨b ++ (b2 ++ (b3 ++ b4)), commitB_5 H1.out H2.out H3.out HT4.out, rfl, ?_, HK7.out.trans (KW.of hB7 (by omega))⟩
                have := HW6.out.below hB7
                simpa using this
              · have HT4 : Hid (tailB x = none) := Lib.hid (HFIN.out false (decide_eq_false (fun e => hnn (by rw [← HNL.out, e.2]; rfl))).symm)
                have t : ((P.nn : Int) == 0) = false := by rw [beq_eq_false_iff_ne]; omega
                have t' : (P.nn == 0) = false := by rw [beq_eq_false_iff_ne]; exact hnn
                clear hnn
                go_wp2_with (first
                  | (go_at_call 110; refine HS.out.mono ?_; rintro e w7 ⟨rfl, hB7⟩; have g10 := cell_of ((hB7.block g hg6).trans KG.out) 10)
                  | (go_at_call 85; refine (must_no _).mono ?_; rintro e w1 ⟨rfl, rfl⟩))
                simp +zetaDelta [bodyPost]
                exact .inr ⟨commitB_4 HT4.out, rfl, HK7.out.trans (KW.of hB7 (by omega))⟩
            · rw [sameN_no hzn] at HS
              have HT4 : Hid (tailB x = none) := Lib.hid (HFIN.out false (decide_eq_false (fun e => hzn ((zeroN_iff x.leaf).1 e.1))).symm)
              clear hzn
              go_wp2_with (first
                | (go_at_call 110; refine HS.out.mono ?_; rintro e w7 ⟨rfl, hB7⟩)
                | (go_at_call 85; refine (must_no _).mono ?_; rintro e w1 ⟨rfl, rfl⟩))
              simp +zetaDelta [bodyPost]
              exact .inr ⟨commitB_4 HT4.out, rfl, HK7.out.trans (KW.of hB7 (by omega))⟩
          · exact absurd h4 (by decide)
        · obtain ⟨w5, hw5⟩ : ∃ w5, w4.alloc (.cells #[.int .i64 1] 3) = w5 := ⟨_, rfl⟩
          have hW5 : WR w5 p ([] ++ b ++ b2 ++ b3) := by rw [← hw5]; exact hW4.alloc _
          have hrow : SlK w5 p (some ⟨w4.heap.size, 0, none⟩) 1 1 (iv [1]) := by
            rw [← hw5]; exact SlK.lit w4 p [1] #[.int .i64 1] rfl 1 rfl hbit4 (by omega)
          have HC5 := Lib.hid (wints_ok p ([] ++ b ++ b2 ++ b3) (some ⟨w4.heap.size, 0, none⟩) 1 1 [1] w5 hW5 hrow (by show _ ≤ _; simp; omega))
          have k5 : w5.heap[g]? = some (.cells (cc x P) 72) := by rw [← hw5, Below.heap_alloc _ _ _ (by omega)]; exact kg
          have HK5 := Lib.hid (show KW p w w5 by rw [← hw5]; exact hK5.alloc (Nat.le_of_lt hbit4) _)
          have H3 := Lib.hid h3; have HW5 := Lib.hid hw5; have K5 := Lib.hid k5
          clear h3 hW4 hK4 hK5 kg hw5 hW5 hrow k5 hhs
          go_wp2_with fail
          rw [HW5.out]
          clear g3
          refine HC5.out.mono ?_
          rintro e w6 (⟨b4, h4, rfl, hW6, hK6⟩ | ⟨h4, rfl, hK6⟩)
          · have kg := hK6.typed K5.out (by omega) (by decide)
            have hK7 := HK5.out.trans hK6
            have hB6 : Below w0.heap.size w0 w6 := HB.out.trans (hK7.below.mono hq)
            have hb4 : b4.length ≤ 4 := by have := nsI_len h4; simpa using this
            have HP := Lib.hid (wpath_ok p ([] ++ b ++ b2 ++ b3 ++ b4) x.leaf P.lA P.ln P.lc x.nodes P.nA P.nn P.nc w0 w6 hW6 HM.out.un HM.out.ns hB6 hq F2 F3 (by show _ ≤ _; simp; omega))
            have g4 := cell_of kg 4; have g5 := cell_of kg 5; have g6 := cell_of kg 6; have g7 := cell_of kg 7; have g8 := cell_of kg 8; have g9 := cell_of kg 9; have g10 := cell_of kg 10
            have HK7 := Lib.hid hK7; have H4 := Lib.hid h4
            clear h4 hW6 hK6 hK7 kg hB6
            go_wp2_with fail
            refine HP.out.mono ?_
            rintro e w7 (⟨b5, h5, rfl, hW7, hK8⟩ | ⟨h5, rfl, hK8⟩)
            · go_wp2_with fail
              go_end0
              have HT4 : tailB x = some (b4 ++ b5) := by unfold tailB; rw [HHS.out, if_pos rfl, H4.out, h5, seqB_yes]
              refine .inl ⟨b ++ (b2 ++ (b3 ++ (b4 ++ b5))), commitB_5 H1.out H2.out H3.out HT4, rfl, ?_, HK7.out.trans hK8⟩
              simpa using hW7
            · simp [bodyPost]
              exact .inr ⟨commitB_4 (by unfold tailB; rw [HHS.out, if_pos rfl, h5]; simp), rfl, HK7.out.trans hK8⟩
          · exact absurd h4 (by decide)
      · simp [bodyPost]
        exact .inr ⟨commitB_3 h3, rfl, HK4.out.trans hK4⟩
    · simp [bodyPost]
      exact .inr ⟨commitB_2 h2, rfl, HK1.out.trans hK2⟩
  · simp [bodyPost]
    exact .inr ⟨commitB_1 h1, rfl, HKR.out.trans hK⟩
theorem cf77 (args : Array Value) (w : World) : (callFunc 77 args).run Try.prog w = .ok (.enter 77 args) w := by kernel_rfl
set_option maxRecDepth 100000 in
set_option maxHeartbeats 4000000 in
theorem commit1_ok (p g : Nat) (x : CM) (P : CP) (w0 w : World) (h : WR w p []) (hM : CMem w0 x P) (hB : Below w0.heap.size w0 w) (hq : w0.heap.size ≤ p) (hz : Hid (szC x ≤ 1048576)) (hg : w.heap[g]? = some (.cells (cc x P) 72)) :
    Calls Try.prog 77 #[.pointer (some ⟨p, 0, none⟩), .pointer (some ⟨g, 0, none⟩)] w (WEnd p [] (commitB x) w) := by
  have H := Lib.hid (wcommit_ok p x P w0 w h hM hB hq hz)
  have g0 := cell_of hg 0; have g1 := cell_of hg 1; have g2 := cell_of hg 2; have g3 := cell_of hg 3; have g4 := cell_of hg 4; have g5 := cell_of hg 5; have g6 := cell_of hg 6; have g7 := cell_of hg 7; have g8 := cell_of hg 8; have g9 := cell_of hg 9; have g10 := cell_of hg 10; have g11 := cell_of hg 11; have g12 := cell_of hg 12
  unfold cv at H
  clear hg h hM hB
  go_enter Try.func77, Try.ntmps77
  go_wp2_with fail
  refine H.out.mono ?_
  rintro e w1 (⟨b, h1, rfl, h3, h4⟩ | ⟨h1, rfl, h3⟩)
  · go_wp2_with fail
    go_end0
    exact .inl ⟨b, h1, rfl, h3, h4⟩
  · simp [bodyPost]
    exact .inr ⟨h1, rfl, h3⟩
set_option maxRecDepth 100000 in
/-- codec.Commit -/
theorem commit_ok (x : CM) (P : CP) (w : World) (hM : CMem w x P) (hz : Hid (szC x ≤ 1048576)) :
    Calls Try.prog 46 #[cv x P] w (CEnd (commitB x) w) := by
  have hmf := hmfT
  have hs : (w.alloc (.cells (cc x P) 72)).heap.size = w.heap.size + 1 := by simp
  have k0 := heap_alloc_new w (.cells (cc x P) 72)
  have hB0 : Below w.heap.size w (w.alloc (.cells (cc x P) 72)) := nxa (Below.refl _ _) _
  have H := Lib.hid (written_ok 77 #[.pointer (some ⟨w.heap.size, 0, none⟩)] (commitB x) (w.alloc (.cells (cc x P) 72)) cf77
    (Lib.hid (fun wf hB hW => commit1_ok _ _ x P w wf hW hM (nx hB0 hB) (by omega) hz ((hB.block _ (by omega)).trans k0))))
  have HB := Lib.hid hB0
  clear k0 hB0 hs
  unfold cv
  go_enter Try.func46, Try.ntmps46
  go_wp2_with fail
  refine H.out.mono ?_
  rintro e w1 ⟨⟨b, A1, c1, ho, rfl, hs⟩ | ⟨ho, rfl⟩, hB⟩
  · go_wp2_with fail
    go_ret2
    exact ⟨.inl ⟨b, A1, c1, ho, rfl, hs⟩, nx HB.out hB⟩
  · go_wp2_with fail
    go_ret2
    exact ⟨.inr ⟨ho, rfl⟩, nx HB.out hB⟩
end Go.Proofs.Ytjebmmmjjiomfaa
