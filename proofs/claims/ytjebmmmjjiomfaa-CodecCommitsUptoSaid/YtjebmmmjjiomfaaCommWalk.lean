/- The walk of the law CodecCommits. -/
import Derived.Test.YtjebmmmjjiomfaaRComA
import Derived.Test.YtjebmmmjjiomfaaRFComA
import Derived.Test.YtjebmmmjjiomfaaCComWA
import Derived.Test.YtjebmmmjjiomfaaCSameC
namespace Go.Proofs.Ytjebmmmjjiomfaa
open Go.RowKit

/-- what TakeCommit's answer holds -/
def outCm (o : Option CM) : CM × Int := match o with | some x => (x, 0) | none => (cm00, 11)
theorem CmEnd.one {o : Option CM} {w : World} {e : Ending} {w' : World} (h : CmEnd o w e w') :
    ∃ P, e = .returned (.tuple #[cv (outCm o).1 P, .int .i64 (outCm o).2]) ∧ CMem w' (outCm o).1 P ∧ Below w.heap.size w w' := by
  rcases h with ⟨⟨t, P, rfl, rfl, h⟩ | ⟨rfl, rfl⟩, hB⟩
  · exact ⟨P, rfl, h, hB⟩
  · exact ⟨cp00, rfl, ⟨Rw.none _ _ _, Sl.none _, Rw.none _ _ _⟩, hB⟩
set_option maxRecDepth 100000 in
set_option maxHeartbeats 8000000 in
theorem codecCommits_walk (x : CM) (P : CP) (B : Option Addr) (m d : Nat) (l : List UInt8) (w : World) (hM : CMem w x P) (hS : Sl w B m d (bv l)) (hz : Hid (szC x ≤ 1048576)) :
    Calls Try.prog 12 #[cv x P, .slice B m d] w fun e w' => e = .returned (.bool true) ∧ Below w.heap.size w w' := by
  have hl : l.length = m := by have := hS.len; rwa [bv_length] at this
  have hmd := hS.cap; have hdt := hS.top
  obtain ⟨g, hg⟩ : ∃ g, w.heap.size = g := ⟨_, rfl⟩
  obtain ⟨wa, hwa⟩ : ∃ wa, w.alloc (.cells (cc x P) 72) = wa := ⟨_, rfl⟩
  have hBa : Below w.heap.size w wa := by rw [← hwa]; exact nxa (Below.refl _ _) _
  have k0 : wa.heap[g]? = some (.cells (cc x P) 72) := by rw [← hwa, ← hg]; exact heap_alloc_new _ _
  have HL := Lib.hid (clive_ok wa)
  have hga : g < wa.heap.size := (Array.getElem?_eq_some_iff.1 k0).1
  have HWA := Lib.hid hwa; have K0 := Lib.hid k0; have HBA := Lib.hid hBa
  have HM := Lib.hid (hM.below hBa); have HS := Lib.hid (hS.below hBa)
  clear hwa k0 hBa hM hS
  unfold cv
  go_enter Try.func12, Try.ntmps12
  go_wp2_with fail
  rw [HWA.out]
  refine HL.out.mono ?_
  rintro e w1 ⟨rfl, hB1⟩
  have HB := Lib.hid hB1
  have m1 := (HB.out.block g hga).trans K0.out
  have a0 := cell_of m1 0; have a1 := cell_of m1 1; have a2 := cell_of m1 2; have a3 := cell_of m1 3; have a4 := cell_of m1 4; have a5 := cell_of m1 5; have a6 := cell_of m1 6; have a7 := cell_of m1 7; have a8 := cell_of m1 8; have a9 := cell_of m1 9; have a10 := cell_of m1 10; have a11 := cell_of m1 11; have a12 := cell_of m1 12
  have HG := Lib.hid (bigC_ok x P w1 (HM.out.below HB.out) hz)
  unfold cv at HG
  clear m1 hB1
  by_cases hb : 5000 < szC x
  · rw [decide_eq_true hb] at HG
    clear hb
    go_wp2_with (go_at_call 45; refine HG.out.mono ?_; rintro e w2 ⟨rfl, hB2⟩)
    go_ret
    exact ⟨rfl, nx HBA.out (nx HB.out hB2)⟩
  rw [decide_eq_false hb] at HG
  clear hb
  by_cases hm : 20000 < m
  · have hmi : (20000 : Int) < (m : Int) := by omega
    go_wp2_with (go_at_call 45; refine HG.out.mono ?_; rintro e w2 ⟨rfl, hB2⟩)
    go_ret
    exact ⟨rfl, nx HBA.out (nx HB.out hB2)⟩
  have hmi : ¬ (20000 : Int) < (m : Int) := by omega
  have HLL : Hid (l.length ≤ 1073741824) := Lib.hid (by show _ ≤ _; omega)
  go_upto_region 4 with (go_at_call 45; refine HG.out.mono ?_; rintro e w2 ⟨rfl, hB2⟩)
  replace HB := Lib.hid (nx HB.out hB2)
  clear a0 a1 a2 a3 a4 a5 a6 a7 a8 a9 a10 a11 a12
  have m1 := (HB.out.block g hga).trans K0.out
  have a0 := cell_of m1 0; have a1 := cell_of m1 1; have a2 := cell_of m1 2; have a3 := cell_of m1 3; have a4 := cell_of m1 4; have a5 := cell_of m1 5; have a6 := cell_of m1 6; have a7 := cell_of m1 7; have a8 := cell_of m1 8; have a9 := cell_of m1 9; have a10 := cell_of m1 10; have a11 := cell_of m1 11; have a12 := cell_of m1 12
  have HW := Lib.hid (commit_ok x P w2 (HM.out.below HB.out) hz)
  unfold cv at HW
  clear m1 hB2 HG
  go_wp2_with fail
  refine HW.out.mono ?_
  rintro e w3 hE3
  obtain ⟨A3, c3, rfl, hS3, hB3⟩ := hE3.one
  replace HB := Lib.hid (nx HB.out hB3)
  clear a0 a1 a2 a3 a4 a5 a6 a7 a8 a9 a10 a11 a12
  have m1 := (HB.out.block g hga).trans K0.out
  have a0 := cell_of m1 0; have a1 := cell_of m1 1; have a2 := cell_of m1 2; have a3 := cell_of m1 3; have a4 := cell_of m1 4; have a5 := cell_of m1 5; have a6 := cell_of m1 6; have a7 := cell_of m1 7; have a8 := cell_of m1 8; have a9 := cell_of m1 9; have a10 := cell_of m1 10; have a11 := cell_of m1 11; have a12 := cell_of m1 12
  have HW2 := Lib.hid (rcommitW_ok x P w3 (HM.out.below HB.out) hz)
  unfold cv at HW2
  have HS3 := Lib.hid hS3
  clear m1 hB3 HW hE3 hS3
  go_wp2_with fail
  refine HW2.out.mono ?_
  rintro e w4 hE4
  obtain ⟨A4, c4, rfl, hS4, hB4⟩ := hE4.one
  replace HB := Lib.hid (nx HB.out hB4)
  replace HS3 := Lib.hid (HS3.out.below hB4)
  have HS4 := Lib.hid hS4
  have HT := Lib.hid (takecommit_ok B m d l w4 (HS.out.below HB.out) HLL)
  clear a0 a1 a2 a3 a4 a5 a6 a7 a8 a9 a10 a11 a12 hB4 HW2 hE4 hS4
  go_wp2_with fail
  refine HT.out.mono ?_
  rintro e w5 hE5
  obtain ⟨P5, rfl, hM5, hB5⟩ := hE5.one
  obtain ⟨y, hy⟩ : ∃ y, (outCm (full rCommit l)).1 = y := ⟨_, rfl⟩
  obtain ⟨ye, hye⟩ : ∃ y, (outCm (full rCommit l)).2 = y := ⟨_, rfl⟩
  rw [hy] at hM5
  rw [hy, hye]
  obtain ⟨gu, hgu⟩ : ∃ gu, w5.heap.size = gu := ⟨_, rfl⟩
  obtain ⟨w6, hw6⟩ : ∃ w6, w5.alloc (.cells (cc y P5) 72) = w6 := ⟨_, rfl⟩
  have hB56 : Below w5.heap.size w5 w6 := by rw [← hw6]; exact nxa (Below.refl _ _) _
  have ku : w6.heap[gu]? = some (.cells (cc y P5) 72) := by rw [← hw6, ← hgu]; exact heap_alloc_new _ _
  replace HB := Lib.hid (nx (nx HB.out hB5) hB56)
  replace HS3 := Lib.hid ((HS3.out.below hB5).below hB56)
  replace HS4 := Lib.hid ((HS4.out.below hB5).below hB56)
  have HM5 := Lib.hid (hM5.below hB56)
  have HW6 := Lib.hid hw6; have KU := Lib.hid ku; have HY := Lib.hid hy; have HYE := Lib.hid hye
  have HX := Lib.hid (rtakecommit_ok B m d l w6 (HS.out.below HB.out) HLL)
  unfold cv
  clear hw6 ku hy hye hB5 hB56 hM5 hE5 HT
  go_wp2_with fail
  rw [HW6.out]
  refine HX.out.mono ?_
  rintro e w7 hE7
  obtain ⟨P7, rfl, hM7, hB7⟩ := hE7.one
  rw [HY.out] at hM7
  rw [HY.out, HYE.out]
  obtain ⟨gw, hgw⟩ : ∃ gw, w7.heap.size = gw := ⟨_, rfl⟩
  obtain ⟨w8, hw8⟩ : ∃ w8, w7.alloc (.cells (cc y P7) 72) = w8 := ⟨_, rfl⟩
  have hB78 : Below w7.heap.size w7 w8 := by rw [← hw8]; exact nxa (Below.refl _ _) _
  have kw : w8.heap[gw]? = some (.cells (cc y P7) 72) := by rw [← hw8, ← hgw]; exact heap_alloc_new _ _
  have hB68 := nx hB7 hB78
  have ku8 := (hB68.block gu (Array.getElem?_eq_some_iff.1 KU.out).1).trans KU.out
  replace HB := Lib.hid (nx HB.out hB68)
  have q3 := (HS3.out.below hB68).str (P := Try.prog) Try.underlying23 Try.underlying5 Try.underlying9
  have q4 := (HS4.out.below hB68).str (P := Try.prog) Try.underlying23 Try.underlying5 Try.underlying9
  obtain ⟨v, hv⟩ : ∃ v, (outC (commitB x)).1 = v := ⟨_, rfl⟩
  obtain ⟨ve, hve⟩ : ∃ v, (outC (commitB x)).2 = v := ⟨_, rfl⟩
  rw [hv] at q3 q4
  rw [hv, hve]
  have u0 := cell_of ku8 0; have u1 := cell_of ku8 1; have u2 := cell_of ku8 2; have u3 := cell_of ku8 3; have u4 := cell_of ku8 4; have u5 := cell_of ku8 5; have u6 := cell_of ku8 6; have u7 := cell_of ku8 7; have u8 := cell_of ku8 8; have u9 := cell_of ku8 9; have u10 := cell_of ku8 10; have u11 := cell_of ku8 11; have u12 := cell_of ku8 12
  have x0 := cell_of kw 0; have x1 := cell_of kw 1; have x2 := cell_of kw 2; have x3 := cell_of kw 3; have x4 := cell_of kw 4; have x5 := cell_of kw 5; have x6 := cell_of kw 6; have x7 := cell_of kw 7; have x8 := cell_of kw 8; have x9 := cell_of kw 9; have x10 := cell_of kw 10; have x11 := cell_of kw 11; have x12 := cell_of kw 12
  have HSW := Lib.hid (samecommit_any y y P5 P7 w8 (HM5.out.below hB68) (hM7.below hB78))
  rw [decide_eq_true rfl] at HSW
  unfold cv at HSW ⊢
  have HW8 := Lib.hid hw8
  rw [← HW8.out] at q3 q4 u0 u1 u2 u3 u4 u5 u6 u7 u8 u9 u10 u11 u12 x0 x1 x2 x3 x4 x5 x6 x7 x8 x9 x10 x11 x12
  clear hB7 hB78 hB68 hM7 hE7 HX hv hve kw ku8 hw8 hgw hgu HS3 HS4
  go_wp2_with fail
  rw [HW8.out]
  refine HSW.out.mono ?_
  rintro e w9 ⟨rfl, hB9⟩
  go_wp2_with fail
  go_ret
  exact ⟨by simp, nx HBA.out (nx HB.out hB9)⟩
end Go.Proofs.Ytjebmmmjjiomfaa
