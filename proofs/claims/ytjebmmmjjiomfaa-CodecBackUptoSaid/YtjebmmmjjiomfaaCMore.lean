/- Bytes with one more, or without the last one. -/
import Derived.Test.YtjebmmmjjiomfaaCSz
import Derived.Test.YtjebmmmjjiomfaaCRCom4
import Derived.Test.YtjebmmmjjiomfaaCComW3
import Derived.Test.YtjebmmmjjiomfaaSameW
import Derived.Test.YtjebmmmjjiomfaaCSameC
namespace Go.Proofs.Ytjebmmmjjiomfaa
open Go.RowKit

set_option maxRecDepth 100000 in
set_option maxHeartbeats 4000000 in
theorem cb1_ok (A : Option Addr) (n c : Nat) (l : List UInt8) (w : World) (h : Sl w A n c (bv l)) (hl : Hid (l.length ≤ 1073741824)) :
    Calls Try.prog 52 #[.slice A n c] w fun e w' => e = .returned (.bool (full rTree l).isSome) ∧ Below w.heap.size w w' := by
  have H := Lib.hid (taketree_ok A n c l w h hl)
  clear h
  go_enter Try.func52, Try.ntmps52
  go_wp2_with fail
  refine H.out.mono ?_
  rintro e w2 ⟨⟨t, B, d, f1, rfl, _⟩ | ⟨f1, rfl⟩, hB⟩
  · have F1 := Lib.hid f1
    clear f1
    go_wp2_with fail
    go_ret
    exact ⟨by rw [F1.out]; rfl, hB⟩
  · have F1 := Lib.hid f1
    clear f1
    go_wp2_with fail
    go_ret
    exact ⟨by rw [F1.out]; rfl, hB⟩
set_option maxRecDepth 100000 in
set_option maxHeartbeats 4000000 in
theorem cb2_ok (A : Option Addr) (n c : Nat) (l : List UInt8) (w : World) (h : Sl w A n c (bv l)) (hl : Hid (l.length ≤ 1073741824)) :
    Calls Try.prog 53 #[.slice A n c] w fun e w' => e = .returned (.bool (full rCommit l).isSome) ∧ Below w.heap.size w w' := by
  have H := Lib.hid (takecommit_ok A n c l w h hl)
  clear h
  go_enter Try.func53, Try.ntmps53
  go_wp2_with fail
  refine H.out.mono ?_
  rintro e w2 ⟨⟨t, P, f1, rfl, _⟩ | ⟨f1, rfl⟩, hB⟩
  · have F1 := Lib.hid f1
    clear f1
    unfold cv
    go_wp2_with fail
    go_ret
    exact ⟨by rw [F1.out]; rfl, nxa hB _⟩
  · have F1 := Lib.hid f1
    clear f1
    unfold cv
    go_wp2_with fail
    go_ret
    exact ⟨by rw [F1.out]; rfl, nxa hB _⟩
set_option maxRecDepth 100000 in
set_option maxHeartbeats 4000000 in
theorem cb3_ok (A : Option Addr) (n c : Nat) (l : List UInt8) (w : World) (h : Sl w A n c (bv l)) (hl : Hid (l.length ≤ 1073741824)) :
    Calls Try.prog 54 #[.slice A n c] w fun e w' => e = .returned (.bool (full rWelcome l).isSome) ∧ Below w.heap.size w w' := by
  have H := Lib.hid (takewelcome_ok A n c l w h hl)
  clear h
  go_enter Try.func54, Try.ntmps54
  go_wp2_with fail
  refine H.out.mono ?_
  rintro e w2 ⟨⟨t, B, d, f1, rfl, _⟩ | ⟨f1, rfl⟩, hB⟩
  · have F1 := Lib.hid f1
    clear f1
    unfold wv
    go_wp2_with fail
    go_ret
    exact ⟨by rw [F1.out]; rfl, nxa hB _⟩
  · have F1 := Lib.hid f1
    clear f1
    unfold wv
    go_wp2_with fail
    go_ret
    exact ⟨by rw [F1.out]; rfl, nxa hB _⟩
theorem cf52 (args : Array Value) (w : World) : (callFunc 52 args).run Try.prog w = .ok (.enter 52 args) w := by kernel_rfl
theorem cf53 (args : Array Value) (w : World) : (callFunc 53 args).run Try.prog w = .ok (.enter 53 args) w := by kernel_rfl
theorem cf54 (args : Array Value) (w : World) : (callFunc 54 args).run Try.prog w = .ok (.enter 54 args) w := by kernel_rfl
set_option maxRecDepth 100000 in
set_option maxHeartbeats 4000000 in
theorem more_no (k : Nat) (A : Option Addr) (c : Nat) (l : List UInt8) (f : List UInt8 → Bool) (w : World) (hS : Sl w A l.length c (bv l)) (hn : 1 ≤ l.length) (hl : Hid (l.length ≤ 1073741000))
    (hcf : ∀ (args : Array Value) (w : World), (callFunc k args).run Try.prog w = .ok (.enter k args) w)
    (H : Hid (∀ (B : Option Addr) (m d : Nat) (l' : List UInt8) (w : World), Sl w B m d (bv l') → l'.length ≤ 1073741824 → Calls Try.prog k #[.slice B m d] w fun e w' => e = .returned (.bool (f l')) ∧ Below w.heap.size w w'))
    (h1 : f (l ++ [0]) = false) (h2 : f (l.take (l.length - 1)) = false) :
    Calls Try.prog 51 #[.slice A l.length c, .func (.func k) #[] #[]] w fun e w' => e = .returned (.bool false) ∧ Below w.heap.size w w' := by
  have hcap := hS.cap; have htop := hS.top; unfold maxLen at htop
  have HS := Lib.hid hS; have H1 := Lib.hid h1; have H2 := Lib.hid h2
  have hll := hl.out
  clear hS h1 h2
  go_enter Try.func51, Try.ntmps51
  go_wp2_with (first
    | (at_builtin; refine wpList_app0 (o := ⟨some 7, _, _, _, _, _⟩) w.heap.size E23 rfl rfl rfl rfl HS.out.lies (by rw [bv_length, Nat.mul_one]) (bv_one _) (by unfold maxLen; omega) (by omega) (Nat.le_refl _) ?_; intro A1 c1 w1 hO1 hG1 hB1; have hs1 := hB1.size)
    | (at_builtin; refine wpList_app (o := ⟨some 9, _, _, _, _, _⟩) E23 rfl rfl rfl (hO1.alloc (.cells #[.int .u8 0] 5)) rfl (lies_cells w1 #[.int .u8 0] 5) rfl (bv_one [0]) (by unfold maxLen; omega) (by omega) (by simp; omega) ?_; intro A2 c2 w2 hO2 hG2 hB2; have hs2 := hB2.size))
  have hBw : Below w.heap.size w w2 := (nxa hB1 _).trans hB2
  have hs := hO2.sl
  rw [show bv l ++ [Value.int .u8 0] = bv (l ++ [0]) from (bv_append l [0]).symm] at hs
  have HB := Lib.hid hBw
  have HC := Lib.hid (H.out A2 (l.length + 1) c2 (l ++ [0]) w2 hs (by simp; omega))
  rw [H1.out] at HC
  clear hO1 hO2 hG1 hG2 hB1 hB2 hs hBw hs1 hs2
  refine HC.out.mono ?_
  rintro e w3 ⟨rfl, hB3⟩
  have hp := (HS.out.below (nx HB.out hB3)).pre (k := l.length - 1) (by omega)
  rw [← bv_take] at hp
  have HC2 := Lib.hid (H.out A (l.length - 1) c (l.take (l.length - 1)) w3 hp (by simp; omega))
  rw [H2.out] at HC2
  have HB3 := Lib.hid (nx HB.out hB3)
  have e1 : IntKind.i64.wrap ((l.length : Int) - 1) = (l.length : Int) - 1 := by apply IntWalk.i64_in; omega
  have e2 : (0 : Int) ≤ (l.length : Int) - 1 := by omega
  have e3 : (l.length : Int) - 1 ≤ (c : Int) := by omega
  have e4 : ((l.length : Int) - 1).toNat = l.length - 1 := by omega
  have e5 : l.length - 1 ≤ c := by omega
  clear hp hB3
  go_wp2_with fail
  refine HC2.out.mono ?_
  rintro e w4 ⟨rfl, hB4⟩
  go_wp2_with fail
  go_ret
  exact ⟨rfl, nx HB3.out hB4⟩
end Go.Proofs.Ytjebmmmjjiomfaa
