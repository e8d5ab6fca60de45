/- The walk of the law CodecTrees. -/
import Derived.Test.YtjebmmmjjiomfaaCLive
namespace Go.Proofs.Ytjebmmmjjiomfaa
open Go.RowKit

set_option maxRecDepth 100000 in
set_option maxHeartbeats 8000000 in
theorem codecTrees_walk (A : Option Addr) (n c : Nat) (t : List TN) (B : Option Addr) (m d : Nat) (l : List UInt8) (w : World) (hT : Ts w A n c t) (hS : Sl w B m d (bv l)) (hz : Hid (szT t ≤ 1048576)) :
    Calls Try.prog 9 #[.slice A n c, .slice B m d] w fun e w' => e = .returned (.bool true) ∧ Below w.heap.size w w' := by
  have hl : l.length = m := by have := hS.len; rwa [bv_length] at this
  have hmd := hS.cap; have hdt := hS.top
  have HL := Lib.hid (clive_ok w)
  go_enter Try.func9, Try.ntmps9
  go_wp2_with fail
  refine HL.out.mono ?_
  rintro e w1 ⟨rfl, hB1⟩
  have hT1 := hT.below hB1
  have HG := Lib.hid (bigT_ok A n c t w1 hT1 hz)
  have HB1 := Lib.hid hB1
  clear hT1
  by_cases hb : 5000 < szT t
  · rw [decide_eq_true hb] at HG
    clear hb
    go_wp2_with (go_at_call 33; refine HG.out.mono ?_; rintro e w2 ⟨rfl, hB2⟩)
    go_ret
    exact ⟨rfl, nx HB1.out hB2⟩
  · rw [decide_eq_false hb] at HG
    have HBN : Hid (szT t ≤ 5000) := Lib.hid (by show _ ≤ _; omega)
    clear hb
    by_cases hm : 20000 < m
    · have hmi : (20000 : Int) < (m : Int) := by omega
      go_wp2_with (go_at_call 33; refine HG.out.mono ?_; rintro e w2 ⟨rfl, hB2⟩)
      go_ret
      exact ⟨rfl, nx HB1.out hB2⟩
    · have hmi : ¬ (20000 : Int) < (m : Int) := by omega
      go_wp2_with (go_at_call 33; refine HG.out.mono ?_; rintro e w2 ⟨rfl, hB2⟩)
      have hBw2 := nx HB1.out hB2
      refine (tree_ok A n c t w2 (hT.below hBw2) (few_szT hz.out)).mono ?_
      rintro e w3 hE3
      obtain ⟨A3, c3, rfl, hS3, hB3⟩ := hE3.one
      have hBw3 := nx hBw2 hB3
      have HW : Hid (wt t ≤ 536870912) := Lib.hid (by have := wt_szT t; have := HBN.out; show _ ≤ _; omega)
      go_wp2_with fail
      refine (rtreeW_ok A n c t w3 (hT.below hBw3) HW).mono ?_
      rintro e w4 hE4
      obtain ⟨A4, c4, rfl, hS4, hB4⟩ := hE4.one
      have hBw4 := nx hBw3 hB4
      have HLL : Hid (l.length ≤ 1073741824) := Lib.hid (by show _ ≤ _; omega)
      go_wp2_with fail
      refine (taketree_ok B m d l w4 (hS.below hBw4) HLL).mono ?_
      rintro e w5 hE5
      obtain ⟨A5, c5, rfl, hT5, hB5⟩ := hE5.one
      have hBw5 := nx hBw4 hB5
      go_wp2_with fail
      refine (rtaketree_ok B m d l w5 (hS.below hBw5) HLL).mono ?_
      rintro e w6 hE6
      obtain ⟨A6, c6, rfl, hT6, hB6⟩ := hE6.one
      have hBw6 := nx hBw5 hB6
      have hS36 := ((hS3.below hB4).below hB5).below hB6
      have hS46 := (hS4.below hB5).below hB6
      have q3 := hS36.str (P := Try.prog) Try.underlying23 Try.underlying5 Try.underlying9
      have q4 := hS46.str (P := Try.prog) Try.underlying23 Try.underlying5 Try.underlying9
      obtain ⟨x, hx⟩ : ∃ x, (outC (treeB t)).1 = x := ⟨_, rfl⟩
      obtain ⟨xe, hxe⟩ : ∃ x, (outC (treeB t)).2 = x := ⟨_, rfl⟩
      obtain ⟨y, hy⟩ : ∃ x, (outT (full rTree l)).1 = x := ⟨_, rfl⟩
      obtain ⟨ye, hye⟩ : ∃ x, (outT (full rTree l)).2 = x := ⟨_, rfl⟩
      have hxl : x.length ≤ 536870912 := by
        rw [← hx]
        cases e : treeB t with
        | none => simp [outC]
        | some b =>
          show b.length ≤ _
          obtain ⟨u, h1, h2⟩ := bindB_some e
          have h3 := vecB_len' h2
          have h4 : u.length ≤ wt t := by
            have : ∀ (t : List TN) (u : List UInt8), allB nodeB t = some u → u.length ≤ wt t := by
              intro t
              induction t with
              | nil => intro u h; injection h with h; subst h; simp
              | cons s t ih =>
                intro u h
                rw [allB] at h
                obtain ⟨a, b, h5, h6, rfl⟩ := seqB_some h
                have h7 := nodeB_len h5
                have h8 := ih b h6
                simp only [wt, List.map_cons, List.sum_cons, List.length_append] at h8 ⊢
                omega
            exact this t u h1
          have := wt_szT t
          have := HBN.out
          omega
      rw [hx] at q3 q4 hS36
      rw [hy] at hT5 hT6
      have HT := Lib.hid (rsame_any _ _ _ _ _ _ y y w6 (hT5.below hB6) hT6)
      rw [decide_eq_true rfl] at HT
      have HS3 := Lib.hid hS36; have HSl := Lib.hid (hS.below hBw6); have HBW := Lib.hid hBw6; have HLN := Lib.hid hl
      rw [hx, hxe, hy, hye]
      clear hx hxe hy hye hS3 hS4 hS36 hS46 hT5 hT6 hB1 hB2 hB3 hB4 hB5 hB6 hBw2 hBw3 hBw4 hBw5 hBw6 hE3 hE4 hE5 hE6 hT hS hl
      go_wp2_with (go_at_call 38; refine HT.out.mono ?_; rintro e w7 ⟨rfl, hB7⟩)
      have hl7 := (HSl.out.below hB7).alloc (.cells #[.slice B m d, .slice A3 x.length c3] 23)
      have hx7 := (HS3.out.below hB7).alloc (.cells #[.slice B m d, .slice A3 x.length c3] 23)
      have htt : tot [l, x] = m + x.length := by simp [tot, HLN.out]
      have HZ := size_ok _ 2 2 _ [l, x] _ (slTwo w7 B A3 m d x.length c3) (BL.two hl7 hx7) (by show _ ≤ _; rw [htt]; omega)
      rw [htt] at HZ
      have hcast : (((m + x.length : Nat)) : Int) = (m : Int) + (x.length : Int) := by omega
      rw [hcast] at HZ
      refine Calls.mono HZ ?_
      rintro e w8 ⟨rfl, hB8⟩
      go_wp2_with fail
      go_ret
      exact ⟨by simp, nx (nxa (nx HBW.out hB7) _) hB8⟩
end Go.Proofs.Ytjebmmmjjiomfaa
