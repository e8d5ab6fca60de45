/- The walks of the reference's tree, told and Tree, that write. -/
import Derived.Test.YtjebmmmjjiomfaaRWNode
import Derived.Test.YtjebmmmjjiomfaaCWritten
namespace Go.Proofs.Ytjebmmmjjiomfaa
open Go.RowKit

/-- how many bytes nodes may take -/
def wt (t : List TN) : Nat := (t.map fun s => 4 * s.un.length + 28).sum
theorem wt_take {t : List TN} {k : Nat} {s : TN} (h : t[k]? = some s) : wt (t.take (k + 1)) = wt (t.take k) + (4 * s.un.length + 28) := by
  unfold wt; rw [List.take_add_one, h]; simp
theorem wt_le (t : List TN) (k : Nat) : wt (t.take k) ≤ wt t := by
  have : wt t = wt (t.take k) + wt (t.drop k) := by unfold wt; rw [← List.sum_append, ← List.map_append, List.take_append_drop]
  omega
theorem wt_len (t : List TN) : 28 * t.length ≤ wt t := by
  unfold wt
  induction t with
  | nil => simp
  | cons s t ih => simp only [List.map_cons, List.sum_cons, List.length_cons]; omega
set_option maxRecDepth 100000 in
set_option maxHeartbeats 2000000 in
theorem rwtree_ok (A : Option Addr) (n c : Nat) (t : List TN) (w : World) (hT : Ts w A n c t) (hw : Hid (wt t ≤ 536870912)) :
    Calls Try.prog 64 #[.slice A n c] w (PEnd (treeB t) (wt t + 4) w) := by
  have htop := hT.top; have hcap := hT.cap; unfold maxLen at htop
  have HL := Lib.hid hT.len
  go_enter Try.func64, Try.ntmps64
  go_wp2_with fail
  go_loopw [4, 11] (fun out i wr => ∃ (k : Nat) (b : List UInt8) (B : Option Addr) (d : Nat), k ≤ n ∧ i = .int .i64 (k : Int) ∧ out = .slice B b.length d ∧ Hid (allB nodeB (t.take k) = some b) ∧ Ow wr w.heap.size 5 1 B b.length d (bv b) ∧ Below w.heap.size w wr ∧ Hid (b.length ≤ wt (t.take k))) (fun _ i _ => n - (intOf i).toNat)
  case atStart => exact ⟨0, [], none, 0, Nat.zero_le _, rfl, rfl, Lib.hid rfl, Ow.nil _ _ _ _, Below.refl _ _, Lib.hid (Nat.zero_le _)⟩
  case round =>
    obtain ⟨k, b, B, d, hk, rfl, rfl, HA, hO, hB, HBL⟩ := hrel
    have hwk := wt_le t k
    have hwn := hw.out
    have hbl := HBL.out
    by_cases hlt : k < n
    · obtain ⟨ad, s, A1, n1, c1, rfl, hs, hat⟩ := (hT.below hB).at_ hlt
      have hwk1 := wt_take hs
      have hwk2 := wt_le t (k + 1)
      have hun : s.un.length = n1 := by have := hat.un.len; rwa [iv_length] at this
      have i1 : (k : Int) < (n : Int) := by omega
      have HS := Lib.hid hs
      have hBa : Below wr.heap.size wr (wr.alloc (.cells (nc s A1 n1 c1) 67)) := nxa (Below.refl _ _) _
      have HC := Lib.hid (rwnode_ok A1 n1 c1 s (wr.alloc (.cells (nc s A1 n1 c1) 67)) (hat.un.below hBa) (by show _ ≤ _; omega))
      have HBa := Lib.hid (hB.trans (hBa.mono hB.size))
      have hOa := hO.below hBa
      have hza := (HBa.out).size
      obtain ⟨c0, c1', c2, c3, c4, c5, _⟩ := hat
      unfold nv at HC
      clear hs hBa hO
      go_wp2_with fail
      refine HC.out.mono ?_
      rintro e w2 ⟨b2, yes, A2, d2, rfl, hO2, hl2, ho2, hB2⟩
      have hO1 := hOa.below hB2
      have hz2 := hB2.size
      have hnb : w.heap.size ≤ w2.heap.size := by omega
      have HO2 := Lib.hid ho2
      have HB2 := Lib.hid (HBa.out.trans (hB2.mono hza))
      clear ho2 hB2 hOa hB
      cases yes
      · go_wp2_with fail
        go_ret2
        exact ⟨[], false, none, 0, rfl, Ow.nil _ _ _ _, Nat.zero_le _, by rw [treeB, allB_none nodeB HS.out HO2.out]; rfl, HB2.out⟩
      · have HN : Hid (nodeB s = some b2) := HO2
        go_wp2_with (at_builtin; refine wpList_app (o := ⟨some 24, _, _, _, _, _⟩) E23 rfl rfl rfl hO1 rfl hO2.lies (by rw [bv_length, Nat.mul_one]) (bv_one _) (by unfold maxLen; omega) (by omega) hnb ?_; intro A3 c3 w3 hO3 hG3 hB3)
        go_roundw
        case rel =>
          refine ⟨k + 1, b ++ b2, A3, c3, by omega, by go_num, by rw [List.length_append], Lib.hid ((allB_take nodeB HS.out).trans (by rw [HA.out, HN.out, seqB_yes])), ?_, HB2.out.trans hB3, Lib.hid (by rw [List.length_append]; omega)⟩
          rw [List.length_append, bv_append]
          exact hO3
        case measure => simp [intOf]; omega
    · obtain rfl : k = n := by omega
      have HT : Hid (t.take k = t) := Lib.hid (by rw [← HL.out, List.take_length])
      rw [HT.out] at HA
      have HC := Lib.hid (rwvec_ok B d b true wr hO.sl (by show _ < _; omega) (allB nodeB t) (by show _ = _; rw [HA.out]; rfl))
      clear hO
      go_wp2_with fail
      refine HC.out.mono ?_
      rintro e w2 ⟨b2, yes, A2, d2, rfl, hO2, hl2, ho2, hB2⟩
      go_wp2_with fail
      go_ret2
      exact ⟨b2, yes, A2, d2, rfl, hO2.mono hB.size, by omega, ho2, hB.trans (hB2.mono hB.size)⟩
/-- told: the bytes, or ErrArg -/
theorem told_ok (A : Option Addr) (b : List UInt8) (c : Nat) (yes : Bool) (w : World) :
    Calls Try.prog 63 #[.slice A b.length c, .bool yes] w fun e w' => e = .returned (.tuple (if yes then #[.slice A b.length c, .int .i64 0] else #[.slice none 0 0, .int .i64 1])) ∧ w = w' := by
  cases yes
  · go_enter Try.func63, Try.ntmps63
    go_wp2_with fail
    go_ret2
    exact ⟨rfl, rfl⟩
  · go_enter Try.func63, Try.ntmps63
    go_wp2_with fail
    go_ret2
    exact ⟨rfl, rfl⟩
/-- how the reference's Tree, Commit and Welcome end -/
theorem CEnd.of {o : Option (List UInt8)} {w w1 : World} {b : List UInt8} {yes : Bool} {A : Option Addr} {c : Nat} (hO : Ow w1 w.heap.size 5 1 A b.length c (bv b)) (ho : o = if yes then some b else none) (hB : Below w.heap.size w w1) :
    CEnd o w (.returned (.tuple (if yes then #[.slice A b.length c, .int .i64 0] else #[.slice none 0 0, .int .i64 1]))) w1 := by
  cases yes
  · exact ⟨.inr ⟨ho, rfl⟩, hB⟩
  · exact ⟨.inl ⟨b, A, c, ho, rfl, hO.sl⟩, hB⟩
/-- the reference's Tree -/
theorem rtreeW_ok (A : Option Addr) (n c : Nat) (t : List TN) (w : World) (hT : Ts w A n c t) (hw : Hid (wt t ≤ 536870912)) :
    Calls Try.prog 35 #[.slice A n c] w (CEnd (treeB t) w) := by
  have H := Lib.hid (rwtree_ok A n c t w hT hw)
  go_enter Try.func35, Try.ntmps35
  go_wp2_with fail
  refine H.out.mono ?_
  rintro e w1 ⟨b, yes, A2, c2, rfl, hO, hl, ho, hB⟩
  have HT := Lib.hid (told_ok A2 b c2 yes w1)
  have HE := Lib.hid (CEnd.of hO ho hB)
  clear hO ho hB hl
  cases yes
  · go_wp2_with (go_at_call 63; refine HT.out.mono ?_; rintro e w2 ⟨rfl, rfl⟩)
    go_ret2
    exact HE.out
  · go_wp2_with (go_at_call 63; refine HT.out.mono ?_; rintro e w2 ⟨rfl, rfl⟩)
    go_ret2
    exact HE.out
end Go.Proofs.Ytjebmmmjjiomfaa
