/- The walks of codec.Size and of the laws' live and big. -/
import Derived.Test.YtjebmmmjjiomfaaCRTree
import Derived.Test.YtjebmmmjjiomfaaCCod
namespace Go.Proofs.Ytjebmmmjjiomfaa
open Go.RowKit

theorem size_ok (A : Option Addr) (n c : Nat) (xs : List Value) (bss : List (List UInt8)) (w : World) (h : Sl w A n c xs) (hb : BL w xs bss) (ht : Hid (tot bss ≤ 140737488355328)) :
    Calls Try.prog 39 #[.slice A n c] w fun e w' => e = .returned (.int .i64 (tot bss : Nat)) ∧ Below w.heap.size w w' := by
  have HC := Lib.hid (concat_any A n c xs bss w h hb ht)
  go_enter Try.func39, Try.ntmps39
  go_wp2_with (go_at_call 59; refine HC.out.mono ?_; rintro e w1 ⟨A', c', rfl, hO, hB⟩)
  go_ret
  exact ⟨rfl, hB⟩
/-- what a writer's answer holds -/
def outC (o : Option (List UInt8)) : List UInt8 × Int := match o with | some b => (b, 0) | none => ([], 1)
theorem CEnd.one {o : Option (List UInt8)} {w : World} {e : Ending} {w' : World} (h : CEnd o w e w') :
    ∃ A c, e = .returned (.tuple #[.slice A (outC o).1.length c, .int .i64 (outC o).2]) ∧ Sl w' A (outC o).1.length c (bv (outC o).1) ∧ Below w.heap.size w w' := by
  rcases h with ⟨⟨b, A, c, rfl, rfl, h⟩ | ⟨rfl, rfl⟩, hB⟩
  · exact ⟨A, c, rfl, h, hB⟩
  · exact ⟨none, 0, rfl, Sl.none _, hB⟩
/-- what TakeTree's answer holds -/
def outT (o : Option (List TN)) : List TN × Int := match o with | some t => (t, 0) | none => ([], 11)
theorem TEnd.one {o : Option (List TN)} {w : World} {e : Ending} {w' : World} (h : TEnd o w e w') :
    ∃ A c, e = .returned (.tuple #[.slice A (outT o).1.length c, .int .i64 (outT o).2]) ∧ Ts w' A (outT o).1.length c (outT o).1 ∧ Below w.heap.size w w' := by
  rcases h with ⟨⟨t, A, c, rfl, rfl, h⟩ | ⟨rfl, rfl⟩, hB⟩
  · exact ⟨A, c, rfl, h, hB⟩
  · exact ⟨none, 0, rfl, Ts.none _, hB⟩
/-- the example of the chapter -/
def exT : List TN := [⟨1, 1, 2, 3, 4, []⟩]
theorem exW : treeB exT = some [5, 1, 1, 2, 3, 4] := by decide +kernel
theorem exR : full rTree [5, 1, 1, 2, 3, 4] = some exT := cod_tree.full_back exW
theorem exN : full rTree [1, 9] = none := by
  have h1 : rV [1, 9] = some ([9], []) := by decide +kernel
  have h2 : rNode [9] = none := by
    have : rI [9] = some (9, []) := by decide +kernel
    exact rNodeX this (by decide) (by decide) (by decide)
  exact full_none (rL_bad h1 (many_none (by decide) h2))
theorem few_ex : Few exT := ⟨by decide, fun s h => by simp [exT] at h; subst h; simp⟩
theorem liveTree (A : Option Addr) (c : Nat) (w : World) (h : Ts w A 1 c exT) :
    Calls Try.prog 34 #[.slice A 1 c] w fun e w' => ∃ A c, e = .returned (.tuple #[.slice A 6 c, .int .i64 0]) ∧ Sl w' A 6 c (bv [5, 1, 1, 2, 3, 4]) ∧ Below w.heap.size w w' :=
  (tree_ok A 1 c exT w h few_ex).mono fun e w' h => by
    obtain ⟨A, c, h1, h2, h3⟩ := h.one
    rw [exW] at h1 h2
    exact ⟨A, c, h1, h2, h3⟩
theorem liveTake (A : Option Addr) (c : Nat) (w : World) (h : Sl w A 6 c (bv [5, 1, 1, 2, 3, 4])) :
    Calls Try.prog 36 #[.slice A 6 c] w fun e w' => ∃ A c, e = .returned (.tuple #[.slice A 1 c, .int .i64 0]) ∧ Ts w' A 1 c exT ∧ Below w.heap.size w w' :=
  (taketree_ok A 6 c _ w h (by show _ ≤ _; decide)).mono fun e w' h => by
    obtain ⟨A, c, h1, h2, h3⟩ := h.one
    rw [exR] at h1 h2
    exact ⟨A, c, h1, h2, h3⟩
theorem liveBad (A : Option Addr) (c : Nat) (w : World) (h : Sl w A 2 c (bv [1, 9])) :
    Calls Try.prog 36 #[.slice A 2 c] w fun e w' => ∃ A c, e = .returned (.tuple #[.slice A 0 c, .int .i64 11]) ∧ Below w.heap.size w w' :=
  (taketree_ok A 2 c _ w h (by show _ ≤ _; decide)).mono fun e w' h => by
    obtain ⟨A, c, h1, h2, h3⟩ := h.one
    rw [exN] at h1 h2
    exact ⟨A, c, h1, h3⟩
theorem ts_ex (w : World) : Ts (w.alloc (.cells #[.int .i64 1, .int .i64 1, .int .i64 2, .int .i64 3, .int .i64 4, .slice none 0 0] 67)) (some ⟨w.heap.size, 0, none⟩) 1 1 exT :=
  Ts.one w ⟨1, 1, 2, 3, 4, []⟩ none 0 0 (Sl.none w)
theorem sl6 (w : World) : Sl (w.alloc (.cells #[.int .u8 5, .int .u8 1, .int .u8 1, .int .u8 2, .int .u8 3, .int .u8 4] 5)) (some ⟨w.heap.size, 0, none⟩) 6 6 (bv [5, 1, 1, 2, 3, 4]) :=
  ⟨rfl, by omega, by unfold maxLen; omega, lies_cells w #[.int .u8 5, .int .u8 1, .int .u8 1, .int .u8 2, .int .u8 3, .int .u8 4] 5⟩
theorem sl19 (w : World) : Sl (w.alloc (.cells #[.int .u8 1, .int .u8 9] 5)) (some ⟨w.heap.size, 0, none⟩) 2 2 (bv [1, 9]) :=
  ⟨rfl, by omega, by unfold maxLen; omega, lies_cells w #[.int .u8 1, .int .u8 9] 5⟩
theorem slTwo (w : World) (A B : Option Addr) (n c m d : Nat) : Sl (w.alloc (.cells #[.slice A n c, .slice B m d] 23)) (some ⟨w.heap.size, 0, none⟩) 2 2 [.slice A n c, .slice B m d] :=
  ⟨rfl, by omega, by unfold maxLen; omega, lies_cells w #[.slice A n c, .slice B m d] 23⟩
set_option maxRecDepth 100000 in
set_option maxHeartbeats 4000000 in
theorem clive_ok (w : World) : Calls Try.prog 32 #[] w fun e w' => e = .returned (.bool true) ∧ Below w.heap.size w w' := by
  go_enter Try.func32, Try.ntmps32
  go_wp2_with fail
  refine (liveTree _ _ _ (ts_ex w)).mono ?_
  rintro e w1 ⟨A1, c1, rfl, hS1, hB1⟩
  have hT1 := (ts_ex w).below hB1
  have hBw1 := nx (nxa (Below.refl _ w) (.cells #[.int .i64 1, .int .i64 1, .int .i64 2, .int .i64 3, .int .i64 4, .slice none 0 0] 67)) hB1
  go_wp2_with fail
  refine (liveTake _ _ _ (sl6 w1)).mono ?_
  rintro e w2 ⟨A2, c2, rfl, hT2, hB2⟩
  have hBw2 := nx (nxa (Below.refl _ w1) (.cells #[.int .u8 5, .int .u8 1, .int .u8 1, .int .u8 2, .int .u8 3, .int .u8 4] 5)) hB2
  go_wp2_with fail
  refine (liveBad _ _ _ (sl19 w2)).mono ?_
  rintro e w3 ⟨A3, c3, rfl, hB3⟩
  have hBw3 := nx (nxa (Below.refl _ w2) (.cells #[.int .u8 1, .int .u8 9] 5)) hB3
  have hS3 := (hS1.below hBw2).below hBw3
  have hT13 := (hT1.below hBw2).below hBw3
  have hT23 := hT2.below hBw3
  have HB := Lib.hid (nx (nx hBw1 hBw2) hBw3)
  have HS := Lib.hid (rsame_any _ A2 1 1 1 c2 exT exT w3 hT13 hT23)
  have q1 := hS3.str (P := Try.prog) Try.underlying23 Try.underlying5 Try.underlying9
  have H3 := Lib.hid hS3
  clear hS1 hT1 hB1 hB2 hB3 hBw1 hBw2 hBw3 hS3 hT13 hT23 hT2
  go_wp2_with (go_at_call 38; refine HS.out.mono ?_; rintro e w4 ⟨rfl, hB4⟩)
  have hS4 := (H3.out.below hB4).alloc (.cells #[.slice A1 6 c1, .slice A1 6 c1] 23)
  have HZ := Lib.hid (size_ok _ 2 2 _ [[5, 1, 1, 2, 3, 4], [5, 1, 1, 2, 3, 4]] _ (slTwo w4 A1 A1 6 c1 6 c1) (BL.two hS4 hS4) (by show _ ≤ _; decide))
  refine HZ.out.mono ?_
  rintro e w5 ⟨rfl, hB5⟩
  have ht : tot [[5, 1, 1, 2, 3, 4], [5, 1, 1, 2, 3, 4]] = 12 := by decide
  rw [ht]
  go_wp2_with fail
  go_ret
  exact ⟨rfl, nx (nxa (nx HB.out hB4) _) hB5⟩
/-- how great a tree is -/
def szT (t : List TN) : Nat := (t.map fun s => 1 + s.un.length).sum
theorem szT_take {t : List TN} {k : Nat} {s : TN} (h : t[k]? = some s) : szT (t.take (k + 1)) = szT (t.take k) + (1 + s.un.length) := by
  unfold szT; rw [List.take_add_one, h]; simp
theorem szT_le (t : List TN) (k : Nat) : szT (t.take k) ≤ szT t := by
  have : szT t = szT (t.take k) + szT (t.drop k) := by unfold szT; rw [← List.sum_append, ← List.map_append, List.take_append_drop]
  omega
theorem szT_len (t : List TN) : t.length ≤ szT t := by
  unfold szT
  induction t with
  | nil => simp
  | cons s t ih => simp only [List.map_cons, List.sum_cons, List.length_cons]; omega
theorem szT_mem {t : List TN} {s : TN} (h : s ∈ t) : 1 + s.un.length ≤ szT t := by
  unfold szT
  induction t with
  | nil => cases h
  | cons x t ih =>
    simp only [List.map_cons, List.sum_cons]
    rcases List.mem_cons.1 h with e | e
    · subst e; omega
    · have := ih e; omega
theorem few_szT {t : List TN} (h : szT t ≤ 1048576) : Few t := ⟨by have := szT_len t; omega, fun s hs => by have := szT_mem hs; omega⟩
set_option maxRecDepth 100000 in
set_option maxHeartbeats 2000000 in
theorem bigT_ok (A : Option Addr) (n c : Nat) (t : List TN) (w : World) (hT : Ts w A n c t) (hz : Hid (szT t ≤ 1048576)) :
    Calls Try.prog 33 #[.slice A n c] w fun e w' => e = .returned (.bool (decide (5000 < szT t))) ∧ Below w.heap.size w w' := by
  have htop := hT.top; have hcap := hT.cap; unfold maxLen at htop
  have HL := Lib.hid hT.len
  go_enter Try.func33, Try.ntmps33
  go_wp2_with fail
  go_loopw [3, 8] (fun v i wr => ∃ k : Nat, k ≤ n ∧ i = .int .i64 (k : Int) ∧ v = .int .i64 (szT (t.take k) : Nat) ∧ Below w.heap.size w wr) (fun _ i _ => n - (intOf i).toNat)
  case atStart => exact ⟨0, Nat.zero_le _, rfl, rfl, Below.refl _ _⟩
  case round =>
    obtain ⟨k, hk, rfl, rfl, hB⟩ := hrel
    have hzl := szT_le t k
    by_cases hlt : k < n
    · obtain ⟨ad, s, A1, n1, c1, rfl, hs, hat⟩ := (hT.below hB).at_ hlt
      have hz1 := szT_le t (k + 1)
      have hun : s.un.length = n1 := by have := hat.un.len; rwa [iv_length] at this
      have HST := Lib.hid (szT_take hs)
      have hst := HST.out
      have i1 : (k : Int) < (n : Int) := by omega
      have hzz := hz.out
      obtain ⟨y, hy⟩ : ∃ y, szT (t.take k) = y := ⟨_, rfl⟩
      rw [hy] at hst hzl HST ⊢
      have hyb : y + (1 + n1) ≤ 1048576 := by omega
      have HUN := Lib.hid hun
      obtain ⟨c0, c1', c2, c3, c4, c5, _⟩ := hat
      clear hs hst hy hun hz1 hzl
      go_wp2_with fail
      go_roundw
      case rel => exact ⟨k + 1, by omega, by go_num, by rw [HST.out, HUN.out]; go_num, nxa hB _⟩
      case measure => simp [intOf]; omega
    · obtain rfl : k = n := by omega
      have HT : Hid (t.take k = t) := Lib.hid (by rw [← HL.out, List.take_length])
      rw [HT.out]
      go_wp2_with fail
      go_ret
      exact ⟨congrArg (fun b => Ending.returned (.bool b)) (decide_eq_decide.2 (by omega)), hB⟩
end Go.Proofs.Ytjebmmmjjiomfaa
