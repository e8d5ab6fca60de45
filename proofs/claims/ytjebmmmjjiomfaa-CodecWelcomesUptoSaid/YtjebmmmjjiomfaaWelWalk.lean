/- The walk of the law CodecWelcomes. -/
import Derived.Test.YtjebmmmjjiomfaaCLive
import Derived.Test.YtjebmmmjjiomfaaRWel
import Derived.Test.YtjebmmmjjiomfaaSameW
namespace Go.Proofs.Ytjebmmmjjiomfaa
open Go.RowKit

/-- what TakeWelcome's answer holds -/
def outW (o : Option WM) : WM × Int := match o with | some x => (x, 0) | none => (wm0, 11)
theorem WmEnd.one {o : Option WM} {w : World} {e : Ending} {w' : World} (h : WmEnd o w e w') :
    ∃ A c, e = .returned (.tuple #[wv (outW o).1 A (outW o).1.tree.length c, .int .i64 (outW o).2]) ∧ Ts w' A (outW o).1.tree.length c (outW o).1.tree ∧ Below w.heap.size w w' := by
  rcases h with ⟨⟨t, A, c, rfl, rfl, h⟩ | ⟨rfl, rfl⟩, hB⟩
  · exact ⟨A, c, rfl, h, hB⟩
  · exact ⟨none, 0, rfl, Ts.none _, hB⟩
theorem treeB_le {t : List TN} {b : List UInt8} (e : treeB t = some b) : b.length ≤ wt t + 4 := by
  obtain ⟨u, h1, h2⟩ := bindB_some e
  have h3 := vecB_len' h2
  have h4 : ∀ (t : List TN) (u : List UInt8), allB nodeB t = some u → u.length ≤ wt t := by
    intro t
    induction t with
    | nil => intro u h; injection h with h; subst h; simp
    | cons s t ih =>
      intro u h
      rw [allB] at h
      obtain ⟨a, b, h5, h6, rfl⟩ := seqB_some h
      have h7 := nodeB_len h5
      have h8 := ih b h6
      simp only [wt, List.map_cons, List.sum_cons, List.length_append] at h8 ⊢
      omega
  have := h4 t u h1
  omega
set_option maxRecDepth 100000 in
set_option maxHeartbeats 8000000 in
theorem codecWelcomes_walk (A : Option Addr) (n c : Nat) (x : WM) (B : Option Addr) (m d : Nat) (l : List UInt8) (w : World) (hT : Ts w A n c x.tree) (hS : Sl w B m d (bv l)) (hz : Hid (szT x.tree ≤ 1048576)) :
    Calls Try.prog 10 #[wv x A n c, .slice B m d] w fun e w' => e = .returned (.bool true) ∧ Below w.heap.size w w' := by
  have hl : l.length = m := by have := hS.len; rwa [bv_length] at this
  have hmd := hS.cap; have hdt := hS.top
  obtain ⟨g, hg⟩ : ∃ g, w.heap.size = g := ⟨_, rfl⟩
  obtain ⟨wa, hwa⟩ : ∃ wa, w.alloc (.cells (wc x A n c) 58) = wa := ⟨_, rfl⟩
  have hBa : Below w.heap.size w wa := by rw [← hwa]; exact nxa (Below.refl _ _) _
  have k0 : wa.heap[g]? = some (.cells (wc x A n c) 58) := by rw [← hwa, ← hg]; exact heap_alloc_new _ _
  have HL := Lib.hid (clive_ok wa)
  have hga : g < wa.heap.size := (Array.getElem?_eq_some_iff.1 k0).1
  have HWA := Lib.hid hwa; have K0 := Lib.hid k0; have HBA := Lib.hid hBa
  clear hwa k0 hBa
  unfold wv
  go_enter Try.func10, Try.ntmps10
  go_wp2_with fail
  rw [HWA.out]
  refine HL.out.mono ?_
  rintro e w1 ⟨rfl, hB1⟩
  have hBw1 := nx HBA.out hB1
  have m1 := (hB1.block g hga).trans K0.out
  have HG := Lib.hid (bigT_ok A n c x.tree w1 (hT.below hBw1) hz)
  have c4 := cell_of m1 4
  have M1 := Lib.hid m1
  have hs1 := hB1.size
  have HBW1 := Lib.hid hBw1
  clear m1 hBw1
  by_cases hb : 5000 < szT x.tree
  · rw [decide_eq_true hb] at HG
    clear hb
    go_wp2_with (go_at_call 33; refine HG.out.mono ?_; rintro e w2 ⟨rfl, hB2⟩)
    go_ret
    exact ⟨rfl, nx HBW1.out hB2⟩
  · rw [decide_eq_false hb] at HG
    have HBN : Hid (szT x.tree ≤ 5000) := Lib.hid (by show _ ≤ _; omega)
    clear hb
    by_cases hm : 20000 < m
    · have hmi : (20000 : Int) < (m : Int) := by omega
      go_wp2_with (go_at_call 33; refine HG.out.mono ?_; rintro e w2 ⟨rfl, hB2⟩)
      go_ret
      exact ⟨rfl, nx HBW1.out hB2⟩
    · have hmi : ¬ (20000 : Int) < (m : Int) := by omega
      go_wp2_with (go_at_call 33; refine HG.out.mono ?_; rintro e w2 ⟨rfl, hB2⟩; have m2 := (hB2.block g (by omega)).trans M1.out; have e0 := cell_of m2 0; have e1 := cell_of m2 1; have e2 := cell_of m2 2; have e3 := cell_of m2 3; have e4 := cell_of m2 4; have e5 := cell_of m2 5; have e6 := cell_of m2 6; have e7 := cell_of m2 7; have e8 := cell_of m2 8; have e9 := cell_of m2 9)
      have HM2 := Lib.hid m2
      have hBw2 := nx HBW1.out hB2
      have hW := welcome_ok A n c x w2 (hT.below hBw2) (few_szT hz.out)
      unfold wv at hW
      refine Calls.mono hW ?_
      rintro e w3 hE3
      obtain ⟨A3, c3, rfl, hS3, hB3⟩ := hE3.one
      have hBw3 := nx hBw2 hB3
      have hs2 := hB2.size
      have m3 := (hB3.block g (by omega)).trans HM2.out
      clear e0 e1 e2 e3 e4 e5 e6 e7 e8 e9 m2
      have e0 := cell_of m3 0; have e1 := cell_of m3 1; have e2 := cell_of m3 2; have e3 := cell_of m3 3; have e4 := cell_of m3 4; have e5 := cell_of m3 5; have e6 := cell_of m3 6; have e7 := cell_of m3 7; have e8 := cell_of m3 8; have e9 := cell_of m3 9
      have HW : Hid (wt x.tree ≤ 268435456) := Lib.hid (by have := wt_szT x.tree; have := HBN.out; show _ ≤ _; omega)
      go_wp2_with fail
      have hW2 := rwelcomeW_ok A n c x w3 (hT.below hBw3) HW
      unfold wv at hW2
      refine Calls.mono hW2 ?_
      rintro e w4 hE4
      obtain ⟨A4, c4', rfl, hS4, hB4⟩ := hE4.one
      clear e0 e1 e2 e3 e4 e5 e6 e7 e8 e9 m3
      have hBw4 := nx hBw3 hB4
      have HLL : Hid (l.length ≤ 1073741824) := Lib.hid (by show _ ≤ _; omega)
      go_wp2_with fail
      refine (takewelcome_ok B m d l w4 (hS.below hBw4) HLL).mono ?_
      rintro e w5 hE5
      obtain ⟨A5, c5, rfl, hT5, hB5⟩ := hE5.one
      obtain ⟨y, hy⟩ : ∃ y, (outW (full rWelcome l)).1 = y := ⟨_, rfl⟩
      obtain ⟨ye, hye⟩ : ∃ y, (outW (full rWelcome l)).2 = y := ⟨_, rfl⟩
      rw [hy] at hT5
      rw [hy, hye]
      obtain ⟨gu, hgu⟩ : ∃ gu, w5.heap.size = gu := ⟨_, rfl⟩
      have hBw5 := nx hBw4 hB5
      obtain ⟨w6, hw6⟩ : ∃ w6, w5.alloc (.cells (wc y A5 y.tree.length c5) 58) = w6 := ⟨_, rfl⟩
      have hB56 : Below w5.heap.size w5 w6 := by rw [← hw6]; exact nxa (Below.refl _ _) _
      have ku : w6.heap[gu]? = some (.cells (wc y A5 y.tree.length c5) 58) := by rw [← hw6, ← hgu]; exact heap_alloc_new _ _
      have HW6 := Lib.hid hw6
      have hBw6 := nx hBw5 hB56
      have HX := Lib.hid (rtakewelcome_ok B m d l w6 (hS.below hBw6) HLL)
      unfold wv
      clear hw6
      go_wp2_with fail
      rw [HW6.out]
      refine HX.out.mono ?_
      rintro e w7 hE7
      obtain ⟨A7, c7, rfl, hT7, hB7⟩ := hE7.one
      rw [hy] at hT7
      rw [hy, hye]
      have mu := (hB7.block gu (Array.getElem?_eq_some_iff.1 ku).1).trans ku
      obtain ⟨w8, hw8⟩ : ∃ w8, w7.alloc (.cells (wc y A7 y.tree.length c7) 58) = w8 := ⟨_, rfl⟩
      have hB78 : Below w7.heap.size w7 w8 := by rw [← hw8]; exact nxa (Below.refl _ _) _
      have hS38 := ((((hS3.below hB4).below hB5).below hB56).below hB7).below hB78
      have hS48 := (((hS4.below hB5).below hB56).below hB7).below hB78
      have q3 := hS38.str (P := Try.prog) Try.underlying23 Try.underlying5 Try.underlying9
      have q4 := hS48.str (P := Try.prog) Try.underlying23 Try.underlying5 Try.underlying9
      obtain ⟨v, hv⟩ : ∃ v, (outC (welcomeB x)).1 = v := ⟨_, rfl⟩
      obtain ⟨ve, hve⟩ : ∃ v, (outC (welcomeB x)).2 = v := ⟨_, rfl⟩
      rw [hv] at q3 q4
      rw [hv, hve]
      obtain ⟨gw, hgw⟩ : ∃ gw, w7.heap.size = gw := ⟨_, rfl⟩
      have kw : w8.heap[gw]? = some (.cells (wc y A7 y.tree.length c7) 58) := by rw [← hw8, ← hgw]; exact heap_alloc_new _ _
      have ku8 := (hB78.block gu (by have := (Array.getElem?_eq_some_iff.1 mu).1; exact this)).trans mu
      have u0 := cell_of ku8 0; have u1 := cell_of ku8 1; have u2 := cell_of ku8 2; have u3 := cell_of ku8 3; have u4 := cell_of ku8 4; have u5 := cell_of ku8 5; have u6 := cell_of ku8 6; have u7 := cell_of ku8 7; have u8 := cell_of ku8 8; have u9 := cell_of ku8 9
      have x0 := cell_of kw 0; have x1 := cell_of kw 1; have x2 := cell_of kw 2; have x3 := cell_of kw 3; have x4 := cell_of kw 4; have x5 := cell_of kw 5; have x6 := cell_of kw 6; have x7 := cell_of kw 7; have x8 := cell_of kw 8; have x9 := cell_of kw 9
      have hSW := samewelcome_any A5 A7 _ _ c5 c7 y y w8 ((((hT5.below hB56).below hB7).below hB78)) (hT7.below hB78)
      rw [decide_eq_true rfl] at hSW
      unfold wv at hSW ⊢
      have HSW := Lib.hid hSW
      have HBF := Lib.hid (nx (nx hBw6 hB7) hB78)
      have HW8 := Lib.hid hw8
      clear hSW hS3 hS4 hS38 hS48 hB2 hB3 hB4 hB5 hB56 hB7 hB78 hBw2 hBw3 hBw4 hBw5 hBw6 hE3 hE4 hE5 hE7 hT hS hT5 hT7 hv hve hy hye ku mu kw ku8 hw8 hgu
      rw [← HW8.out] at q3 q4 u0 u1 u2 u3 u4 u5 u6 u7 u8 u9 x0 x1 x2 x3 x4 x5 x6 x7 x8 x9
      go_wp2_with fail
      rw [HW8.out]
      refine Calls.mono HSW.out ?_
      rintro e w9 ⟨rfl, hB9⟩
      go_wp2_with fail
      go_ret
      exact ⟨by simp, nx HBF.out hB9⟩

end Go.Proofs.Ytjebmmmjjiomfaa
