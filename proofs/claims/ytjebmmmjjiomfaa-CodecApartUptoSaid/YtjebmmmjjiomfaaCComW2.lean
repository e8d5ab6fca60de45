/- The walks of a writer's path and commit, of codec.Commit. -/
import Derived.Test.YtjebmmmjjiomfaaCComW1
namespace Go.Proofs.Ytjebmmmjjiomfaa
open Go.RowKit

theorem pnB_1 {s : PN} (h : nsI [s.enc] = none) : pnB' s = none := by unfold pnB'; rw [h]; rfl
theorem pnB_2 {s : PN} (h : (nsI s.seals).bind vecB = none) : pnB' s = none := by unfold pnB'; rw [h]; simp
set_option maxRecDepth 100000 in
set_option maxHeartbeats 4000000 in
/-- path$1 -/
theorem wpath1_ok (q g : Nat) (l : List UInt8) (A : Option Addr) (n c : Nat) (t : List PN) (w0 w : World) (h : WR w q l) (hT : Ns w0 A n c t) (hB : Below w0.heap.size w0 w) (hq : w0.heap.size ≤ q) (hg : w.cell? ⟨g, 6, none⟩ = some (.slice A n c))
    (hf : Hid (t.length ≤ 1048576 ∧ ∀ s ∈ t, s.seals.length ≤ 1048576)) (hl : Hid (l.length ≤ 1073741824)) :
    Calls Try.prog 118 #[.pointer (some ⟨q, 0, none⟩), .pointer (some ⟨g, 0, none⟩)] w (WEnd q l (allB pnB' t) w) := by
  have htop := hT.top; have hcap := hT.cap; unfold maxLen at htop
  have HL := Lib.hid hT.len
  go_enter Try.func118, Try.ntmps118
  go_wp2_with fail
  go_loopw [8] (fun i wr => ∃ (k : Nat) (b : List UInt8), k ≤ n ∧ i = .int .i64 (k : Int) ∧ Hid (allB pnB' (t.take k) = some b) ∧ WR wr q (l ++ b) ∧ KW q w wr) (fun i _ => n - (intOf i).toNat)
  case atStart => exact ⟨0, [], Nat.zero_le _, rfl, Lib.hid rfl, by rw [List.append_nil]; exact h, KW.refl _ _⟩
  case round =>
    obtain ⟨k, b, hk, rfl, HA, hW, hK⟩ := hrel
    by_cases hlt : k < n
    · have hBr : Below w0.heap.size w0 wr := hB.trans (hK.below.mono hq)
      obtain ⟨ad, s, rfl, hs, hat0⟩ := hT.at_ hlt
      obtain ⟨A1, n1, c1, d0, d1, hsl⟩ := hat0
      have kk : ∀ {q : Addr} {v : Value}, w0.cell? q = some v → wr.cell? q = some v := fun {q v} e => (hBr.cell (World.block_lt_of_cell? w0 _ e)).trans e
      have c0 := kk d0; have c1' := kk d1
      have hun : s.seals.length ≤ 1048576 := hf.out.2 s (List.mem_of_getElem? hs)
      have hln : s.seals.length = n1 := by have := hsl.len; rwa [iv_length] at this
      have hbl : b.length ≤ k * 4194344 := by
        have := allB_len (f := pnB') (k := 4194344) (l := t.take k) (fun x hx y hy => by
          have := pnB'_len hy
          have := hf.out.2 x (List.mem_of_mem_take hx)
          omega) HA.out
        have h2 : (t.take k).length ≤ k := by simp; omega
        exact Nat.le_trans this (Nat.mul_le_mul_right _ h2)
      have hkn : k ≤ 1048576 := by have := hf.out.1; have := HL.out; omega
      have hbit := hW.bit
      obtain ⟨gb, hgb⟩ : ∃ gb, wr.heap.size = gb := ⟨_, rfl⟩
      obtain ⟨wb, hwb⟩ : ∃ wb, wr.alloc (.cells #[.int .i64 s.enc, .slice A1 n1 c1] 111) = wb := ⟨_, rfl⟩
      have hzb : wb.heap.size = gb + 1 := by rw [← hwb]; simp [hgb]
      have hWb : WR wb q (l ++ b) := by rw [← hwb]; exact hW.alloc _
      have hKb : KW q w wb := by rw [← hwb]; exact hK.alloc (by omega) _
      have kb : wb.heap[gb]? = some (.cells #[.int .i64 s.enc, .slice A1 n1 c1] 111) := by rw [← hwb, ← hgb]; exact heap_alloc_new _ _
      obtain ⟨wc, hwc⟩ : ∃ wc, wb.alloc (.cells #[.int .i64 s.enc] 3) = wc := ⟨_, rfl⟩
      have hWc : WR wc q (l ++ b) := by rw [← hwc]; exact hWb.alloc _
      have hKc : KW q w wc := by rw [← hwc]; exact hKb.alloc (by omega) _
      have kc : wc.heap[gb]? = some (.cells #[.int .i64 s.enc, .slice A1 n1 c1] 111) := by rw [← hwc, Below.heap_alloc _ _ _ (by omega)]; exact kb
      have hrow : SlK wc q (some ⟨gb + 1, 0, none⟩) 1 1 (iv [s.enc]) := by
        have := SlK.lit wb q [s.enc] #[.int .i64 s.enc] rfl 1 rfl (by omega) (by omega)
        rwa [hwc, hzb] at this
      have HC := Lib.hid (wints_ok q (l ++ b) (some ⟨gb + 1, 0, none⟩) 1 1 [s.enc] wc hWc hrow (by show _ ≤ _; have := hl.out; simp; omega))
      have hslk : SlK wc q A1 n1 c1 (iv s.seals) := SlK.from hsl (hBr.trans (by rw [← hwc, ← hwb]; exact ((Below.refl w0.heap.size wr).alloc hBr.size _).alloc (by have := hBr.size; simp; omega) _)) hq
      have HSK := Lib.hid hslk
      have HS := Lib.hid hs; have HKc := Lib.hid hKc; have KC := Lib.hid kc; have HWB := Lib.hid hwb; have HWC := Lib.hid hwc
      have i1 : (k : Int) < (n : Int) := by omega
      clear hs hsl hzb d0 d1 kk hWb hKb kb hWc hKc kc hrow hslk hwb hwc hK hBr hW
      have hbn := hl.out
      go_wp2_with fail
      rw [HWB.out, HWC.out]
      clear c0 c1'
      refine HC.out.mono ?_
      rintro e w2 (⟨b2, h2, rfl, hW2, hK2⟩ | ⟨h2, rfl, hK2⟩)
      · have k2 := hK2.typed KC.out (by omega) (by decide)
        have hKx := HKc.out.trans hK2
        have hsk2 := HSK.out.kw hK2
        have hb2 : b2.length ≤ 4 := by have := nsI_len h2; simpa using this
        have HC2 := Lib.hid (wlist_ok q (l ++ b ++ b2) A1 n1 c1 s.seals w2 hW2 hsk2.1 (by show _ ≤ _; simp; omega))
        have g1 := cell_of k2 1
        have H2 := Lib.hid h2; have HK2 := Lib.hid hKx
        clear h2 hW2 hK2 k2 hKx hsk2
        go_wp2_with fail
        clear g1
        refine HC2.out.mono ?_
        rintro e w3 (⟨b3, h3, rfl, hW3, hK3⟩ | ⟨h3, rfl, hK3⟩)
        · have hp : pnB' s = some (b2 ++ b3) := by unfold pnB'; rw [H2.out, h3, seqB_yes]
          go_wp2_with fail
          go_roundw
          case rel => exact ⟨k + 1, b ++ (b2 ++ b3), by omega, by go_num, Lib.hid ((allB_take pnB' HS.out).trans (by rw [HA.out, hp, seqB_yes])), by simpa using hW3, HK2.out.trans hK3⟩
          case measure => simp [intOf]; omega
        · simp +zetaDelta [Exit.then, Exit.inBlock, bodyPost]
          exact .inr ⟨allB_none pnB' HS.out (pnB_2 h3), rfl, HK2.out.trans hK3⟩
      · simp +zetaDelta [Exit.then, Exit.inBlock, bodyPost]
        exact .inr ⟨allB_none pnB' HS.out (pnB_1 h2), rfl, HKc.out.trans hK2⟩
    · obtain rfl : k = n := by omega
      have HT : Hid (t.take k = t) := Lib.hid (by rw [← HL.out, List.take_length])
      go_wp2_with fail
      go_end0
      rw [HT.out] at HA
      exact .inl ⟨b, HA.out, rfl, hW, hK⟩
theorem cf118 (args : Array Value) (w : World) : (callFunc 118 args).run Try.prog w = .ok (.enter 118 args) w := by kernel_rfl
/-- a path's seven cells -/
abbrev pc7 (s : TN) (A : Option Addr) (n c : Nat) (B : Option Addr) (m d : Nat) : Array Value := #[.int .i64 s.k, .int .i64 s.id, .int .i64 s.enc, .int .i64 s.sig, .int .i64 s.hash, .slice A n c, .slice B m d]
theorem pathB_eq (s : TN) (t : List PN) : pathB s t = seqB (nodeB s) ((allB pnB' t).bind vecB) := rfl
theorem nodeB_le {s : TN} {b : List UInt8} (h : nodeB s = some b) (hn : s.un.length ≤ 1048576) : b.length ≤ 4194328 := by have := nodeB_len h; omega
set_option maxRecDepth 100000 in
set_option maxHeartbeats 4000000 in
theorem wpath_ok (p : Nat) (l : List UInt8) (s : TN) (A : Option Addr) (n c : Nat) (t : List PN) (B : Option Addr) (m d : Nat) (w0 w : World) (h : WR w p l) (hs : Sl w0 A n c (iv s.un)) (hT : Ns w0 B m d t) (hB : Below w0.heap.size w0 w) (hq : w0.heap.size ≤ p)
    (hf : Hid (t.length ≤ 1048576 ∧ ∀ s ∈ t, s.seals.length ≤ 1048576)) (hun : Hid (s.un.length ≤ 1048576)) (hl : Hid (l.length ≤ 2147484000)) :
    Calls Try.prog 109 #[.pointer (some ⟨p, 0, none⟩), .agg (pc7 s A n c B m d)] w (WEnd p l (pathB s t) w) := by
  have hmf := hmfT
  have hpw := h.bit
  have hln : s.un.length = n := by have := hs.len; rwa [iv_length] at this
  obtain ⟨g, hg⟩ : ∃ g, w.heap.size = g := ⟨_, rfl⟩
  obtain ⟨wb, hwb⟩ : ∃ wb, w.alloc (.cells (pc7 s A n c B m d) 70) = wb := ⟨_, rfl⟩
  have hWb : WR wb p l := by rw [← hwb]; exact h.alloc _
  have hKb : KW p w wb := by rw [← hwb]; exact (KW.refl p w).alloc (by omega) _
  have k0 : wb.heap[g]? = some (.cells (pc7 s A n c B m d) 70) := by rw [← hwb, ← hg]; exact heap_alloc_new _ _
  have hBb : Below w0.heap.size w0 wb := hB.trans (hKb.below.mono hq)
  have HC := Lib.hid (wnode_ok p l A n c s wb hWb (SlK.from hs hBb hq) (by show _ ≤ _; have := hl.out; have := hun.out; omega))
  have HKB := Lib.hid hKb; have K0 := Lib.hid k0; have HWB := Lib.hid hwb; have HB := Lib.hid hBb; have HT := Lib.hid hT
  have hpg : p < g := by omega
  unfold nv at HC
  clear hwb hWb hKb k0 hBb hB h hs hT
  go_enter Try.func109, Try.ntmps109
  go_wp2_with fail
  rw [HWB.out]
  refine HC.out.mono ?_
  rintro e w1 (⟨b, h1, rfl, hW1, hK1⟩ | ⟨h1, rfl, hK1⟩)
  · have k1 := hK1.typed K0.out (by omega) (by decide)
    have hKx := HKB.out.trans hK1
    have hB1 : Below w0.heap.size w0 w1 := HB.out.trans (hK1.below.mono hq)
    have hbl := nodeB_le h1 hun.out
    have hbit := hW1.bit
    have hin : Calls Try.prog 118 #[.pointer (some ⟨w1.heap.size, 0, none⟩), .pointer (some ⟨g, 0, none⟩)] (w1.alloc (.cells #[.slice none 0 0] 126)) (WEnd w1.heap.size [] (allB pnB' t) (w1.alloc (.cells #[.slice none 0 0] 126))) :=
      wpath1_ok _ g [] B m d t w0 _ (WR.new w1) HT.out (hB1.alloc hB1.size _) (by have := hB1.size; omega) (cell_of ((Below.heap_alloc w1 _ g (by have := (Array.getElem?_eq_some_iff.1 k1).1; omega)).trans k1) 6) hf (by show _ ≤ _; simp)
    have HV := Lib.hid (wvec_ok p (l ++ b) 118 #[.pointer (some ⟨g, 0, none⟩)] (allB pnB' t) w1 hW1 (by show _ ≤ _; have := hl.out; simp; omega) cf118 hin)
    have H1 := Lib.hid h1; have HKX := Lib.hid hKx
    clear h1 hW1 hK1 k1 hKx hB1 hin
    go_wp2_with fail
    refine HV.out.mono ?_
    rintro e w2 (⟨b2, h2, rfl, hW2, hK2⟩ | ⟨h2, rfl, hK2⟩)
    · go_wp2_with fail
      go_end0
      exact .inl ⟨b ++ b2, by rw [pathB_eq, H1.out, h2, seqB_yes], rfl, by rw [← List.append_assoc]; exact hW2, HKX.out.trans hK2⟩
    · simp [bodyPost]
      exact .inr ⟨by rw [pathB_eq, h2, seqB_none'], rfl, HKX.out.trans hK2⟩
  · simp [bodyPost]
    exact .inr ⟨by rw [pathB_eq, h1, seqB_none], rfl, HKB.out.trans hK1⟩
theorem cf108 (args : Array Value) (w : World) : (callFunc 108 args).run Try.prog w = .ok (.enter 108 args) w := by kernel_rfl
theorem few_szC {x : CM} (h : szC x ≤ 1048576) : (x.props.length ≤ 1048576 ∧ ∀ s ∈ x.props, s.leaf.un.length ≤ 1048576) ∧ (x.nodes.length ≤ 1048576 ∧ ∀ s ∈ x.nodes, s.seals.length ≤ 1048576) ∧ x.leaf.un.length ≤ 1048576 := by
  unfold szC at h
  refine ⟨⟨by omega, fun s hs => ?_⟩, ⟨by omega, fun s hs => ?_⟩, by omega⟩
  · have := sum_mem (fun p : PR => p.leaf.un.length) hs
    omega
  · have := sum_mem (fun p : PN => p.seals.length) hs
    omega
end Go.Proofs.Ytjebmmmjjiomfaa
