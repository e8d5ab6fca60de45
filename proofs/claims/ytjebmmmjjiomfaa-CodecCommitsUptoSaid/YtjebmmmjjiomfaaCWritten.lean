/- The walks of written and of codec.Tree. -/
import Derived.Test.YtjebmmmjjiomfaaCTreeW
namespace Go.Proofs.Ytjebmmmjjiomfaa
open Go.RowKit

/-- how Tree, Commit and Welcome end -/
def CEnd (o : Option (List UInt8)) (w : World) (e : Ending) (w' : World) : Prop :=
  ((∃ b A c, o = some b ∧ e = .returned (.tuple #[.slice A b.length c, .int .i64 0]) ∧ Sl w' A b.length c (bv b)) ∨ (o = none ∧ e = .returned (.tuple #[.slice none 0 0, .int .i64 1]))) ∧ Below w.heap.size w w'
theorem written1_ok (g0 g2 p k : Nat) (cap : Array Value) (o : Option (List UInt8)) (w : World) (h0 : w.cell? ⟨g0, 0, none⟩ = some (.func (.func k) #[] cap)) (h2 : w.cell? ⟨g2, 0, none⟩ = some (.pointer (some ⟨p, 0, none⟩)))
    (hcf : ∀ (args : Array Value) (w : World), (callFunc k args).run Try.prog w = .ok (.enter k args) w) (H : Hid (Calls Try.prog k (#[.pointer (some ⟨p, 0, none⟩)] ++ cap) w (WEnd p [] o w))) :
    Calls Try.prog 96 #[.pointer (some ⟨g0, 0, none⟩), .pointer (some ⟨g2, 0, none⟩)] w (WEnd p [] o w) := by
  go_enter Try.func96, Try.ntmps96
  go_wp2_with fail
  refine Calls.mono H.out ?_
  rintro e w1 (⟨b, h1, rfl, h3, h4⟩ | ⟨h1, rfl, h3⟩)
  · go_wp2_with fail
    go_end0
    exact .inl ⟨b, h1, rfl, h3, h4⟩
  · simp [bodyPost]
    exact .inr ⟨h1, rfl, h3⟩
theorem WR.storeT {w : World} {p b o : Nat} {t : TypeId} {l : List UInt8} (h : WR w p l) (hb : IsT w b t) (ht : t ≠ 5) (hp : p ≠ b) (v : Value) : WR (w.setCell ⟨b, o, none⟩ v) p l := by
  obtain ⟨cs, fz, hb⟩ := hb
  obtain ⟨A, c, h1, h2⟩ := h
  refine ⟨A, c, (Below.heap_setCell _ _ _ _ hp).trans h1, ?_⟩
  obtain ⟨hl, hv | ⟨g, cap, cur, hv, hg2, hh, r⟩⟩ := h2
  · exact ⟨hl, .inl hv⟩
  · exact ⟨hl, .inr ⟨g, cap, cur, hv, hg2, (Below.heap_setCell _ _ _ _ (by show g ≠ b; intro e; rw [e, hb] at hh; injection hh with hh; injection hh with _ hh; exact ht hh)).trans hh, r⟩⟩
theorem cf96 (args : Array Value) (w : World) : (callFunc 96 args).run Try.prog w = .ok (.enter 96 args) w := by kernel_rfl
set_option maxRecDepth 100000 in
set_option maxHeartbeats 2000000 in
theorem written_ok (k : Nat) (cap : Array Value) (o : Option (List UInt8)) (w : World) (hcf : ∀ (args : Array Value) (w : World), (callFunc k args).run Try.prog w = .ok (.enter k args) w)
    (hf : Hid (∀ wf, Below w.heap.size w wf → WR wf (w.heap.size + 1) [] → Calls Try.prog k (#[.pointer (some ⟨w.heap.size + 1, 0, none⟩)] ++ cap) wf (WEnd (w.heap.size + 1) [] o wf))) :
    Calls Try.prog 60 #[.func (.func k) #[] cap] w (CEnd o w) := by
  have hmf := hmfT
  obtain ⟨g, hg⟩ : ∃ g, w.heap.size = g := ⟨_, rfl⟩
  obtain ⟨w3, hw3⟩ : ∃ w3, ((w.alloc (.cells #[.func (.func k) #[] cap] 92)).alloc (.cells #[.slice none 0 0] 126)).alloc (.cells #[.pointer (some ⟨g + 1, 0, none⟩)] 90) = w3 := ⟨_, rfl⟩
  have hz3 : w3.heap.size = g + 1 + 1 + 1 := by rw [← hw3]; simp [hg]
  have hB3 : Below g w w3 := by
    rw [← hw3]
    exact (((Below.refl g w).alloc (by omega) _).alloc (by simp; omega) _).alloc (by simp; omega) _
  have hW3 : WR w3 (g + 1) [] := by
    have := WR.new (w.alloc (.cells #[.func (.func k) #[] cap] 92))
    rw [show (w.alloc (.cells #[.func (.func k) #[] cap] 92)).heap.size = g + 1 by simp [hg]] at this
    rw [← hw3]; exact this.alloc _
  have k0 : w3.heap[g]? = some (.cells #[.func (.func k) #[] cap] 92) := by
    rw [← hw3, Below.heap_alloc _ _ _ (by simp; omega), Below.heap_alloc _ _ _ (by simp; omega), ← hg]; exact heap_alloc_new _ _
  have k2 : w3.heap[g + 1 + 1]? = some (.cells #[.pointer (some ⟨g + 1, 0, none⟩)] 90) := by
    have := heap_alloc_new ((w.alloc (.cells #[.func (.func k) #[] cap] 92)).alloc (.cells #[.slice none 0 0] 126)) (.cells #[.pointer (some ⟨g + 1, 0, none⟩)] 90)
    rw [← hw3]
    rwa [show ((w.alloc (.cells #[.func (.func k) #[] cap] 92)).alloc (.cells #[.slice none 0 0] 126)).heap.size = g + 1 + 1 by simp [hg]] at this
  have hBt : Below w3.heap.size w3 (twoW w3 1) := ((Below.refl _ w3).alloc (Nat.le_refl _) _).alloc (by simp) _
  have t0 := (hBt.block g (by omega)).trans k0
  have t2 := (hBt.block (g + 1 + 1) (by omega)).trans k2
  have hWt := hW3.below hBt
  rw [hg] at hf
  have hin := written1_ok g (g + 1 + 1) (g + 1) k cap o (twoW w3 1) (cell_of t0 0) (cell_of t2 0) hcf (Lib.hid (hf.out _ (hB3.trans (hBt.mono (by omega))) hWt))
  have htry := try_ok 96 #[.pointer (some ⟨g, 0, none⟩), .pointer (some ⟨g + 1 + 1, 0, none⟩)] 1 w3 (fun w' => ∃ b, o = some b ∧ WR w' (g + 1) b ∧ KW (g + 1) (twoW w3 1) w') (fun w' => o = none ∧ KW (g + 1) (twoW w3 1) w') cf96
    (Lib.hid (hin.mono fun e w' h => by
      have hk : ∀ w', KW (g + 1) (twoW w3 1) w' → TwoK w3 1 w' := fun w' h => ⟨h.typed (twoK_start w3 1).1 (by omega) (by decide), h.typed (twoK_start w3 1).2 (by omega) (by decide)⟩
      rcases h with ⟨b, h1, rfl, h3, h4⟩ | ⟨h1, rfl, h3⟩
      · exact ⟨.inl ⟨rfl, b, h1, h3, h4⟩, hk _ h4⟩
      · exact ⟨.inr ⟨rfl, h1, h3⟩, hk _ h3⟩))
  have HT := Lib.hid htry; have HB3 := Lib.hid hB3; have HBt := Lib.hid hBt; have T2 := Lib.hid t2; have HZ := Lib.hid hz3; have HW3 := Lib.hid hw3
  clear htry hin hB3 hBt t0 t2 hWt hf k0 k2 hW3 hw3 hz3
  go_enter Try.func60, Try.ntmps60
  go_wp2_with fail
  rw [HW3.out]
  refine HT.out.mono ?_
  rintro e w4 ⟨w2, hK, ⟨rfl, ⟨b, ho, hW, hKW⟩, rfl⟩ | ⟨rfl, ⟨ho, hKW⟩, rfl⟩⟩
  · have t2 := hKW.typed T2.out (by omega) (by decide)
    have hT : IsT w2 (w3.heap.size + 1) 24 := ⟨_, _, hK.2⟩
    have hW5 := hW.storeT (o := 0) hT (by decide) (by have := HZ.out; omega) (.int .i64 0)
    have t5 : (w2.setCell ⟨w3.heap.size + 1, 0, none⟩ (.int .i64 0)).heap[g + 1 + 1]? = some (.cells #[.pointer (some ⟨g + 1, 0, none⟩)] 90) := (Below.heap_setCell _ _ _ _ (by show _ ≠ w3.heap.size + 1; have := HZ.out; omega)).trans t2
    have hB5 : Below g w (w2.setCell ⟨w3.heap.size + 1, 0, none⟩ (.int .i64 0)) := (((HB3.out).trans ((HBt.out).mono (by have := HZ.out; omega))).trans (hKW.below.mono (by omega))).setCell (p := ⟨w3.heap.size + 1, 0, none⟩) (by show g ≤ _; have := HZ.out; simp; omega) _
    obtain ⟨w5, hw5⟩ : ∃ w5, w2.setCell ⟨w3.heap.size + 1, 0, none⟩ (.int .i64 0) = w5 := ⟨_, rfl⟩
    rw [hw5] at hW5 t5 hB5 ⊢
    clear hw5 hK hKW hT hW t2
    obtain ⟨A, c, cw, _, hO, _⟩ := hW5.cell
    have e0 := cell_of t5 0
    have hsl := hO.sl
    go_wp2_with fail
    go_ret2
    exact ⟨.inl ⟨b, A, c, ho, rfl, hsl⟩, by rw [hg]; exact hB5⟩
  · have hB5 : Below g w ((w2.alloc (.cells #[] 140)).setCell ⟨w3.heap.size + 1, 0, none⟩ (.int .i64 1)) := ((((HB3.out).trans ((HBt.out).mono (by have := HZ.out; omega))).trans (hKW.below.mono (by omega))).alloc (by have := HBt.out.size; have := hKW.size; have := HZ.out; omega) _).setCell (p := ⟨w3.heap.size + 1, 0, none⟩) (by show g ≤ _; have := HZ.out; simp; omega) _
    obtain ⟨w5, hw5⟩ : ∃ w5, (w2.alloc (.cells #[] 140)).setCell ⟨w3.heap.size + 1, 0, none⟩ (.int .i64 1) = w5 := ⟨_, rfl⟩
    rw [hw5] at hB5 ⊢
    clear hw5 hK hKW
    go_wp2_with fail
    go_ret2
    exact ⟨.inr ⟨ho, rfl⟩, by rw [hg]; exact hB5⟩
theorem cf61 (args : Array Value) (w : World) : (callFunc 61 args).run Try.prog w = .ok (.enter 61 args) w := by kernel_rfl
theorem tree1_ok (p g : Nat) (A : Option Addr) (n c : Nat) (t : List TN) (w0 w : World) (h : WR w p []) (hT : Ts w0 A n c t) (hB : Below w0.heap.size w0 w) (hf : Hid (Few t)) (hg : w.cell? ⟨g, 0, none⟩ = some (.slice A n c)) :
    Calls Try.prog 61 #[.pointer (some ⟨p, 0, none⟩), .pointer (some ⟨g, 0, none⟩)] w (WEnd p [] (treeB t) w) := by
  have H := Lib.hid (wtree_ok p [] A n c t w0 w h hT hB hf (by show _ ≤ _; simp))
  go_enter Try.func61, Try.ntmps61
  go_wp2_with fail
  refine H.out.mono ?_
  rintro e w1 (⟨b, h1, rfl, h3, h4⟩ | ⟨h1, rfl, h3⟩)
  · go_wp2_with fail
    go_end0
    exact .inl ⟨b, h1, rfl, h3, h4⟩
  · simp [bodyPost]
    exact .inr ⟨h1, rfl, h3⟩
/-- codec.Tree -/
theorem tree_ok (A : Option Addr) (n c : Nat) (t : List TN) (w : World) (hT : Ts w A n c t) (hf : Hid (Few t)) :
    Calls Try.prog 34 #[.slice A n c] w (CEnd (treeB t) w) := by
  have hmf := hmfT
  have hz : (w.alloc (.cells #[.slice A n c] 49)).heap.size = w.heap.size + 1 := by simp
  have k0 := heap_alloc_new w (.cells #[.slice A n c] 49)
  have hB0 : Below w.heap.size w (w.alloc (.cells #[.slice A n c] 49)) := nxa (Below.refl _ _) _
  have H := Lib.hid (written_ok 61 #[.pointer (some ⟨w.heap.size, 0, none⟩)] (treeB t) (w.alloc (.cells #[.slice A n c] 49)) cf61
    (Lib.hid (fun wf hB hW => tree1_ok _ _ A n c t w wf hW hT (nx hB0 hB) hf (cell_of ((hB.block _ (by omega)).trans k0) 0))))
  have HB := Lib.hid hB0
  clear k0 hB0 hz
  go_enter Try.func34, Try.ntmps34
  go_wp2_with fail
  refine H.out.mono ?_
  rintro e w1 ⟨⟨b, A1, c1, ho, rfl, hs⟩ | ⟨ho, rfl⟩, hB⟩
  · go_wp2_with fail
    go_ret2
    exact ⟨.inl ⟨b, A1, c1, ho, rfl, hs⟩, nx HB.out hB⟩
  · go_wp2_with fail
    go_ret2
    exact ⟨.inr ⟨ho, rfl⟩, nx HB.out hB⟩
end Go.Proofs.Ytjebmmmjjiomfaa
