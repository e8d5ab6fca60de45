/- The walk of the law ResolveTells. -/
import Derived.Test.YtieeinppoiihpaaDoorRPath
import Derived.Test.YtieeinppoiihpaaDoorAloneWalk
namespace Go.Proofs.YtieeinppoiihpaaDoor
open Go.RowKit

def Rw1 (l : List Int) (r : Int) (W : World) (e : Ending) (w' : World) : Prop :=
  ∃ B d, e = .returned (.tuple #[.slice B l.length d, .int .i64 r]) ∧ Sl w' B l.length d (iv l) ∧ Below W.heap.size W w'
def Rw2 (l m : List Int) (r : Int) (W : World) (e : Ending) (w' : World) : Prop :=
  ∃ B d C c, e = .returned (.tuple #[.slice B l.length d, .slice C m.length c, .int .i64 r]) ∧ Sl w' B l.length d (iv l) ∧ Sl w' C m.length c (iv m) ∧ Below W.heap.size W w'
theorem sl_nil (w : World) : Sl w none 0 0 (iv []) := (Ow.nil w 0 3 1).sl
theorem res_same (A : Option Addr) (n c : Nat) (t : List TN) (x : Int) (hn : n ≤ 140) (hwf : Hid (∀ s ∈ t, TWf s)) (hu : Hid (∀ s ∈ t, s.un.length ≤ 1000)) :
    ∃ (l : List Int) (r : Int), (∀ W, Ts W A n c t → Tab W → Calls Tryd.prog 39 #[.slice A n c, .int .i64 x] W (Rw1 l r W)) ∧ (∀ W, Ts W A n c t → Calls Tryd.prog 46 #[.slice A n c, .int .i64 x] W (Rw1 l r W)) := by
  by_cases hx : HasT t x
  · obtain ⟨y, rfl⟩ : ∃ y : Nat, x = (y : Int) := ⟨x.toNat, by have := hx.2.1; omega⟩
    refine ⟨resN t y, 0, fun W hW hT => (res_yes A n c t y W hW (by omega) hwf hu hT hx).mono ?_, fun W hW => (res8_yes A n c t y W hW hn hu hx).mono ?_⟩ <;>
    · rintro e w' ⟨B, d, rfl, hO, hB⟩
      exact ⟨B, d, rfl, hO.sl, hB⟩
  · refine ⟨[], 1, fun W hW hT => (res_no A n c t x W hW (by omega) hwf hu hT hx).mono ?_, fun W hW => (res8_no A n c t x W hW hn hu hx).mono ?_⟩ <;>
    · rintro e w' ⟨rfl, hB⟩
      exact ⟨none, 0, rfl, sl_nil _, hB⟩
theorem path_same (A : Option Addr) (n c : Nat) (t : List TN) (i : Int) (hn : n ≤ 140) (hwf : Hid (∀ s ∈ t, TWf s)) (hu : Hid (∀ s ∈ t, s.un.length ≤ 1000)) :
    ∃ (l m : List Int) (r : Int), (∀ W, Ts W A n c t → Tab W → Calls Tryd.prog 47 #[.slice A n c, .int .i64 i] W (Rw2 l m r W)) ∧ (∀ W, Ts W A n c t → Calls Tryd.prog 48 #[.slice A n c, .int .i64 i] W (Rw2 l m r W)) := by
  by_cases hi : HasL t i
  · obtain ⟨y, rfl⟩ : ∃ y : Nat, i = (y : Int) := ⟨i.toNat, by have := hi.2.1; omega⟩
    refine ⟨selN t (pathL (2 * y) (lvs t)) (copL (2 * y) (lvs t)) (pathL (2 * y) (lvs t)).length, selN t (copL (2 * y) (lvs t)) (copL (2 * y) (lvs t)) (pathL (2 * y) (lvs t)).length, 0, fun W hW hT => (path_yes_ A n c t y W hW hn hwf hT hu hi).mono ?_, fun W hW => (path8_yes A n c t y W hW hn hu hi).mono ?_⟩ <;>
    · rintro e w' ⟨B, d, C, c, rfl, h1, h2, hB⟩
      exact ⟨B, d, C, c, rfl, h1, h2, hB⟩
  · refine ⟨[], [], 1, fun W hW hT => (path_no_ A n c t i W hW hn hwf hT hu hi).mono ?_, fun W hW => (path8_no A n c t i W hW hn hu hi).mono ?_⟩ <;>
    · rintro e w' ⟨rfl, hB⟩
      exact ⟨none, 0, none, 0, rfl, sl_nil _, sl_nil _, hB⟩
set_option maxRecDepth 100000 in
set_option maxHeartbeats 8000000 in
theorem tellsWalk (A : Option Addr) (n c : Nat) (t : List TN) (x i : Int) (w : World) (h : Ts w A n c t) (hwf : Hid (∀ s ∈ t, TWf s)) (_hx : -9223372036854775808 ≤ x ∧ x ≤ 9223372036854775807) (_hi : -9223372036854775808 ≤ i ∧ i ≤ 9223372036854775807) (hT : Tab w) :
    Calls Tryd.prog 10 #[.slice A n c, .int .i64 x, .int .i64 i] w fun e w' => e = .returned (.bool true) ∧ Below w.heap.size w w' := by
  have HLV := Lib.hid (live_ok w hT)
  by_cases hfew : Few t
  rotate_left
  · have HF := Lib.hid (fun W hW => few_ok A n c t W hW)
    rw [decide_eq_false hfew] at HF
    clear hfew
    go_enter Tryd.func10, Tryd.ntmps10
    go_wp2_with fail
    refine HLV.out.mono ?_; rintro e w1 ⟨rfl, hB1⟩
    have h1 := h.below hB1
    go_wp2_with fail
    refine (HF.out _ h1).mono ?_; rintro e w2 ⟨rfl, hB2⟩
    have hB12 := hB1.trans (hB2.mono hB1.size)
    go_wp2_with fail
    go_ret
    exact ⟨rfl, hB12⟩
  have hn140 : n ≤ 140 := by have := hfew.1; rwa [h.len] at this
  have hu := Lib.hid (few_un hfew)
  have HF := Lib.hid (fun W hW => few_ok A n c t W hW)
  rw [decide_eq_true hfew] at HF
  obtain ⟨l, r, hr1, hr2⟩ := res_same A n c t x hn140 hwf hu
  obtain ⟨p, q, s, hp1, hp2⟩ := path_same A n c t i hn140 hwf hu
  have HR1 := Lib.hid hr1; have HR2 := Lib.hid hr2; have HP1 := Lib.hid hp1; have HP2 := Lib.hid hp2
  clear hfew hr1 hr2 hp1 hp2
  go_enter Tryd.func10, Tryd.ntmps10
  go_wp2_with fail
  refine HLV.out.mono ?_; rintro e w1 ⟨rfl, hB1⟩
  go_wp2_with fail
  refine (HF.out _ (h.below hB1)).mono ?_; rintro e w2 ⟨rfl, hB2⟩
  have hB12 := hB1.trans (hB2.mono hB1.size)
  clear hB1 hB2
  go_wp2_with fail
  refine (HR1.out _ (h.below hB12) (hT.below' hB12)).mono ?_; rintro e w3 ⟨B1, d1, rfl, h3, hB3⟩
  have hB13 := hB12.trans (hB3.mono hB12.size)
  clear hB12 hB3
  go_wp2_with fail
  refine (HR2.out _ (h.below hB13)).mono ?_; rintro e w4 ⟨B2, d2, rfl, h4, hB4⟩
  have hB14 := hB13.trans (hB4.mono hB13.size)
  have h34 := h3.below hB4
  clear hB13 hB4 h3
  go_wp2_with fail
  refine (HP1.out _ (h.below hB14) (hT.below' hB14)).mono ?_; rintro e w5 ⟨B3, d3, C3, c3, rfl, h5, k5, hB5⟩
  have hB15 := hB14.trans (hB5.mono hB14.size)
  have h35 := h34.below hB5
  have h45 := h4.below hB5
  clear hB14 hB5 h34 h4
  go_wp2_with fail
  refine (HP2.out _ (h.below hB15)).mono ?_; rintro e w6 ⟨B4, d4, C4, c4, rfl, h6, k6, hB6⟩
  have hB16 := hB15.trans (hB6.mono hB15.size)
  have S1 := Lib.hid (same_yes B1 B2 _ d1 d2 l w6 (h35.below hB6) (h45.below hB6))
  have h56 := h5.below hB6
  have k56 := k5.below hB6
  clear hB15 hB6 h35 h45 h5 k5
  go_wp2_with fail
  refine S1.out.mono ?_; rintro e w7 ⟨rfl, hB7⟩
  have hB17 := hB16.trans (hB7.mono hB16.size)
  have S2 := Lib.hid (same_yes B3 B4 _ d3 d4 p w7 (h56.below hB7) (h6.below hB7))
  have k57 := k56.below hB7
  have k67 := k6.below hB7
  clear hB16 hB7 h56 h6 k56 k6
  go_wp2_with fail
  refine S2.out.mono ?_; rintro e w8 ⟨rfl, hB8⟩
  have hB18 := hB17.trans (hB8.mono hB17.size)
  have S3 := Lib.hid (same_yes C3 C4 _ c3 c4 q w8 (k57.below hB8) (k67.below hB8))
  clear hB17 hB8 k57 k67
  go_wp2_with fail
  refine S3.out.mono ?_; rintro e w9 ⟨rfl, hB9⟩
  have hB19 := hB18.trans (hB9.mono hB18.size)
  clear hB18 hB9
  go_wp2_with fail
  go_ret
  exact ⟨rfl, hB19⟩
end Go.Proofs.YtieeinppoiihpaaDoor
