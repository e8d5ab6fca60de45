/- The walks of a writer's tree, of written, of codec.Tree. -/
import Derived.Test.YtjebmmmjjiomfaaCNode
namespace Go.Proofs.Ytjebmmmjjiomfaa
open Go.RowKit

theorem vecB_len' {l b : List UInt8} (h : vecB l = some b) : b.length ≤ l.length + 4 := by
  unfold vecB at h; split at h
  · injection h with h; subst h; rw [bytesL_len]; have := (intL_le l.length).2; omega
  · cases h
theorem bindB_some {o : Option (List UInt8)} {b : List UInt8} (h : o.bind vecB = some b) : ∃ x, o = some x ∧ vecB x = some b := by
  cases o with
  | none => cases h
  | some x => exact ⟨x, rfl, h⟩
theorem nodeB_len {s : TN} {b : List UInt8} (h : nodeB s = some b) : b.length ≤ 4 * s.un.length + 24 := by
  unfold nodeB at h
  split at h
  · split at h
    · have := nsI_len h; simp at this; omega
    · cases h
  · split at h
    · split at h
      · have := nsI_len h; simp at this; omega
      · cases h
    · split at h
      · split at h
        · obtain ⟨x, y, h1, h2, rfl⟩ := seqB_some h
          obtain ⟨z, h3, h4⟩ := bindB_some h2
          have := nsI_len h1; have := nsI_len h3; have := vecB_len' h4
          simp at *; omega
        · cases h
      · cases h
def Few (t : List TN) : Prop := t.length ≤ 1048576 ∧ ∀ s ∈ t, s.un.length ≤ 1048576
theorem allB_len {α : Type} {f : α → Option (List UInt8)} {k : Nat} : ∀ {l : List α} {b : List UInt8}, (∀ x ∈ l, ∀ y, f x = some y → y.length ≤ k) → allB f l = some b → b.length ≤ l.length * k
  | [], b, _, h => by injection h with h; subst h; simp
  | x :: l, b, hf, h => by
    rw [allB] at h
    obtain ⟨u, v, h1, h2, rfl⟩ := seqB_some h
    have := hf x (by simp) u h1
    have := allB_len (fun y hy => hf y (by simp [hy])) h2
    simp [Nat.add_mul]; omega
/-- a row that lay before the writer -/
theorem SlK.from {w0 w : World} {q : Nat} {A : Option Addr} {n c : Nat} {xs : List Value} (h : Sl w0 A n c xs) (hB : Below w0.heap.size w0 w) (hq : w0.heap.size ≤ q) : SlK w q A n c xs := by
  refine ⟨h.below hB, ?_⟩
  rcases h.lies with e | ⟨ad, rfl, hc⟩
  · exact .inl e
  · by_cases hx : xs = []
    · exact .inl hx
    · have := h.lies.blk rfl hx
      exact .inr ⟨ad, rfl, Saf.low (by omega) (by have := hB.size; omega)⟩
set_option maxRecDepth 100000 in
set_option maxHeartbeats 2000000 in
/-- tree$1 -/
theorem wtree1_ok (q g : Nat) (l : List UInt8) (A : Option Addr) (n c : Nat) (t : List TN) (w0 w : World) (h : WR w q l) (hT : Ts w0 A n c t) (hB : Below w0.heap.size w0 w) (hq : w0.heap.size ≤ q) (hg : w.cell? ⟨g, 0, none⟩ = some (.slice A n c))
    (hf : Hid (Few t)) (hl : Hid (l.length ≤ 1073741824)) :
    Calls Try.prog 98 #[.pointer (some ⟨q, 0, none⟩), .pointer (some ⟨g, 0, none⟩)] w (WEnd q l (allB nodeB t) w) := by
  have htop := hT.top; have hcap := hT.cap; unfold maxLen at htop
  have HL := Lib.hid hT.len
  go_enter Try.func98, Try.ntmps98
  go_wp2_with fail
  go_loopw [7] (fun i wr => ∃ (k : Nat) (b : List UInt8), k ≤ n ∧ i = .int .i64 (k : Int) ∧ Hid (allB nodeB (t.take k) = some b) ∧ WR wr q (l ++ b) ∧ KW q w wr) (fun i _ => n - (intOf i).toNat)
  case atStart => exact ⟨0, [], Nat.zero_le _, rfl, Lib.hid rfl, by rw [List.append_nil]; exact h, KW.refl _ _⟩
  case round =>
    obtain ⟨k, b, hk, rfl, HA, hW, hK⟩ := hrel
    by_cases hlt : k < n
    · have hBr : Below w0.heap.size w0 wr := hB.trans (hK.below.mono hq)
      obtain ⟨ad, s, A1, n1, c1, rfl, hs, hat⟩ := (hT.below hBr).at_ hlt
      have hsl0 := hT.at_ hlt
      obtain ⟨ad2, s2, A2, n2, c2, e1, e2, hat2⟩ := hsl0
      injection e1 with e1
      subst e1
      obtain rfl : s = s2 := Option.some.inj (hs.symm.trans e2)
      have e5 := hat.c5
      rw [(hat2.below hBr).c5] at e5
      injection e5 with e5
      injection e5 with e5 e6 e7
      subst e5 e6 e7
      have hun : s.un.length ≤ 1048576 := hf.out.2 s (List.mem_of_getElem? hs)
      have hln : s.un.length = n2 := by have := hat2.un.len; rwa [iv_length] at this
      have hbl : b.length ≤ k * 4194328 := by
        have := allB_len (f := nodeB) (k := 4194328) (l := t.take k) (fun x hx y hy => by
          have := nodeB_len hy
          have := hf.out.2 x (List.mem_of_mem_take hx)
          omega) HA.out
        have h2 : (t.take k).length ≤ k := by simp; omega
        exact Nat.le_trans this (Nat.mul_le_mul_right _ h2)
      have hkn : k ≤ 1048576 := by have := hf.out.1; have := HL.out; omega
      have hKa := hK.alloc (Nat.le_of_lt hW.bit) (.cells (nc s A2 n2 c2) 67)
      have HC := Lib.hid (wnode_ok q (l ++ b) A2 n2 c2 s (wr.alloc (.cells (nc s A2 n2 c2) 67)) (hW.alloc _) (SlK.from hat2.un (hBr.alloc hBr.size _) hq) (by show _ ≤ _; have := hl.out; simp; omega))
      have HS := Lib.hid hs
      have HKa := Lib.hid hKa
      obtain ⟨c0, c1, c2, c3, c4, c5, _⟩ := hat
      unfold nv at HC
      have i1 : (k : Int) < (n : Int) := by omega
      clear hs hat2 hun hln hbl hkn hKa hK hBr e2 hW
      go_wp2_with fail
      refine HC.out.mono ?_
      rintro e w2 (⟨b2, h2, rfl, hW2, hK2⟩ | ⟨h2, rfl, hK2⟩)
      · go_wp2_with fail
        go_roundw
        case rel => exact ⟨k + 1, b ++ b2, by omega, by go_num, Lib.hid ((allB_take nodeB HS.out).trans (by rw [HA.out, h2, seqB_yes])), by rw [← List.append_assoc]; exact hW2, HKa.out.trans hK2⟩
        case measure => simp [intOf]; omega
      · simp +zetaDelta [Exit.then, Exit.inBlock, bodyPost]
        exact .inr ⟨allB_none nodeB HS.out h2, rfl, HKa.out.trans hK2⟩
    · obtain rfl : k = n := by omega
      have HT : Hid (t.take k = t) := Lib.hid (by rw [← HL.out, List.take_length])
      go_wp2_with fail
      go_end0
      rw [HT.out] at HA
      exact .inl ⟨b, HA.out, rfl, hW, hK⟩
theorem cf98 (args : Array Value) (w : World) : (callFunc 98 args).run Try.prog w = .ok (.enter 98 args) w := by kernel_rfl
set_option maxRecDepth 100000 in
theorem wtree_ok (p : Nat) (l : List UInt8) (A : Option Addr) (n c : Nat) (t : List TN) (w0 w : World) (h : WR w p l) (hT : Ts w0 A n c t) (hB : Below w0.heap.size w0 w) (hf : Hid (Few t)) (hb : Hid (l.length + 1073741828 ≤ 70368744177664)) :
    Calls Try.prog 62 #[.pointer (some ⟨p, 0, none⟩), .slice A n c] w (WEnd p l (treeB t) w) := by
  have hmf := hmfT
  have hpw := h.bit
  have hK : KW p w (w.alloc (.cells #[.slice A n c] 49)) := (KW.refl p w).alloc (by omega) _
  have hz : (w.alloc (.cells #[.slice A n c] 49)).heap.size = w.heap.size + 1 := by simp
  have hin : Calls Try.prog 98 #[.pointer (some ⟨w.heap.size + 1, 0, none⟩), .pointer (some ⟨w.heap.size, 0, none⟩)] ((w.alloc (.cells #[.slice A n c] 49)).alloc (.cells #[.slice none 0 0] 126)) (WEnd (w.heap.size + 1) [] (allB nodeB t) ((w.alloc (.cells #[.slice A n c] 49)).alloc (.cells #[.slice none 0 0] 126))) := by
    refine wtree1_ok _ _ [] A n c t w0 _ ?_ hT ((hB.alloc hB.size _).alloc (by have := hB.size; simp; omega) _) (by have := hB.size; omega) ?_ hf (by show _ ≤ _; simp)
    · have := WR.new (w.alloc (.cells #[.slice A n c] 49)); rwa [hz] at this
    · have e := heap_alloc_new w (.cells #[.slice A n c] 49)
      exact cell_of ((Below.heap_alloc _ _ _ (by simp)).trans e) 0
  have HV := Lib.hid (wvec_ok p l 98 #[.pointer (some ⟨w.heap.size, 0, none⟩)] (allB nodeB t) (w.alloc (.cells #[.slice A n c] 49)) (h.alloc _) hb cf98 (by rw [hz]; exact hin))
  have HK := Lib.hid hK
  clear hin hK hz
  go_enter Try.func62, Try.ntmps62
  go_wp2_with fail
  refine HV.out.mono ?_
  intro e w1 hE
  rcases hE.pre HK.out with ⟨b, h1, rfl, h3, h4⟩ | ⟨h1, rfl, h3⟩
  · go_wp2_with fail
    go_end0
    exact .inl ⟨b, h1, rfl, h3, h4⟩
  · simp [bodyPost]
    exact .inr ⟨h1, rfl, h3⟩
end Go.Proofs.Ytjebmmmjjiomfaa
