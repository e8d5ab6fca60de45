/- The walk of Unblind. -/
import Derived.Test.YthbfaledmoobjaaDoorRead1
import Derived.Deep.RegionLaw
import Derived.BigRegion
namespace Go.Proofs.YthbfaledmoobjaaDoor
open Go.RowKit

def Blinds (ns : List NN) (sig draw sk m : Int) : Prop := ∃ s bl bn, 0 ≤ sig ∧ ns[sig.toNat]? = some s ∧ s.op = 10 ∧ s.l = [sk, bl] ∧ 0 ≤ bl ∧ ns[bl.toNat]? = some bn ∧ bn.op = 12 ∧ bn.l = [m, draw]
def UbR (ns : List NN) (sig draw : Int) (t er : Int) (ns' : List NN) : Prop :=
  (knownF ns [sig, draw] = true → ∀ sk m, Blinds ns sig draw sk m → Mk ns (ofN 10 [sk, m]) t er ns') ∧ (knownF ns [sig, draw] = true → (∀ sk m, ¬ Blinds ns sig draw sk m) → er = 40)
set_option maxRecDepth 100000 in
set_option maxHeartbeats 4000000 in
theorem unblind_ok (base b : Nat) (ns : List NN) (x y : Int) (w : World) (h : AR w base b ns) (hT : Tb base w) :
    Calls Tryd.prog 18 #[.pointer (some ⟨b, 0, none⟩), .int .i64 x, .int .i64 y] w (GrP base b ns 1 w (UbR ns x y)) := by
  have hb := h.base_le
  have HKN := Lib.hid (known_ok base b ns (some ⟨w.heap.size, 0, none⟩) 2 2 [x, y] (w.alloc (.cells #[.int .i64 x, .int .i64 y] 3)) (h.alloc _) (sl_row w [x, y] (by simp [maxLen])))
  have HAR := Lib.hid h
  have HT := Lib.hid hT
  have HBASE := Lib.hid hb
  obtain ⟨kn, hkn⟩ : ∃ kn, knownF ns [x, y] = kn := ⟨_, rfl⟩
  rw [hkn] at HKN
  have HK := Lib.hid hkn
  clear h hkn hT hb
  go_enter Tryd.func18, Tryd.ntmps18
  go_wp2_with (go_at_call 29; refine HKN.out.mono ?_; rintro e w1 ⟨rfl, hB1⟩; refine Hid.out ?_)
  refine Lib.hid ?_
  have hBw : Below w.heap.size w w1 := ((Below.refl _ w).alloc (Nat.le_refl _) _).trans (hB1.mono (by simp))
  cases kn
  · have HB := Lib.hid hBw
    clear hB1 hBw
    go_wp2_with fail
    go_ret2
    exact ⟨0, 1, ns, rfl, (HAR.out).below HB.out, Af.of HB.out HBASE.out, Grow.refl _ _, W64.zero, ⟨fun q => absurd (HK.out.symm.trans q) (by decide), fun q => absurd (HK.out.symm.trans q) (by decide)⟩⟩
  have HND := Lib.hid (nd_ok base b ns x 10 w1 ((HAR.out).below hBw))
  clear hB1
  go_wp2_with (go_at_call 30; refine HND.out.mono ?_; rintro e w2 ⟨n, B, d, is, rfl, hsl, hB2, his⟩; refine Hid.out ?_)
  refine Lib.hid ?_
  have hBw3 := nxa (nx hBw hB2) (.cells #[.int .i64 n.op, .int .i64 n.n, .string n.s, .slice B n.l.length d] 56)
  have HI := Lib.hid his
  clear hB2 hBw
  cases is
  · have HB := Lib.hid hBw3
    clear his hsl hBw3
    have hno : ∀ sk m, ¬ Blinds ns x y sk m := by
      rintro sk m ⟨s, bl, bn, h0, hs, ho, _⟩
      rcases HI.out with ⟨q, _⟩ | ⟨_, q⟩
      · cases q
      · exact q s h0 hs ho
    have HNO := Lib.hid hno
    clear hno
    go_wp2_with fail
    go_ret2
    exact ⟨0, 40, ns, rfl, (HAR.out).below HB.out, Af.of HB.out HBASE.out, Grow.refl _ _, W64.zero, ⟨fun _ sk m q => absurd q (HNO.out sk m), fun _ _ => rfl⟩⟩
  obtain ⟨s0, s1, hl2⟩ := len2 (nd_len HAR.out his (k := 2) (by decide))
  have hsw := nd_w64 HAR.out his
  obtain ⟨nop, nn, nst, nl⟩ := n
  simp only at hl2
  subst hl2
  obtain ⟨al, rfl⟩ := sl_some hsl (by simp)
  obtain ⟨W3, hW3⟩ : ∃ W3, w2.alloc (.cells #[.int .i64 nop, .int .i64 nn, .string nst, .slice (some al) 2 d] 56) = W3 := ⟨_, rfl⟩
  have hsl3 : Sl W3 (some al) 2 d (iv [s0, s1]) := by rw [← hW3]; exact hsl.alloc _
  have k3 : W3.heap[w2.heap.size]? = some (.cells #[.int .i64 nop, .int .i64 nn, .string nst, .slice (some al) 2 d] 56 (0, 0)) := by rw [← hW3]; exact heap_alloc_new _ _
  have hsz : W3.heap.size = w2.heap.size + 1 := by rw [← hW3]; simp
  have hB3 : Below w.heap.size w W3 := by rw [← hW3]; exact hBw3
  obtain ⟨g, hg⟩ : ∃ g, w2.heap.size = g := ⟨_, rfl⟩
  rw [hg] at k3 hsz
  have c1r := sl_cs hsl3 0 (v := s1) rfl
  rw [← hW3] at c1r
  have HND2 := Lib.hid (nd_ok base b ns s1 12 W3 ((HAR.out).below hB3))
  have HSL := Lib.hid hsl3; have HK3 := Lib.hid k3; have HSZ := Lib.hid hsz; have HB3 := Lib.hid hB3; have HW3 := Lib.hid hW3; have HG := Lib.hid hg
  have HSW : Hid (W64 s0) := Lib.hid (hsw s0 (by simp))
  clear hsl hsl3 k3 hsz hB3 hW3 hg his hBw3 hsw
  have hq : Hid (0 ≤ x ∧ ns[x.toNat]? = some ⟨nop, nn, nst, [s0, s1]⟩ ∧ nop = 10) := Lib.hid (by
    rcases HI.out with ⟨_, q1, q2, q3⟩ | ⟨q, _⟩
    · exact ⟨q1, q2, q3⟩
    · cases q)
  go_wp2_with (go_at_call 30; rw [HW3.out]; refine HND2.out.mono ?_; rintro e w4 ⟨pn, B2, d2, is2, rfl, hsl4, hB4, his2⟩; refine Hid.out ?_)
  refine Lib.hid ?_
  rw [HG.out]
  have hB4a := nxa (nx HB3.out hB4) (.cells #[.int .i64 pn.op, .int .i64 pn.n, .string pn.s, .slice B2 pn.l.length d2] 56)
  have HI2 := Lib.hid his2
  have hBL : Hid (∀ sk m, Blinds ns x y sk m → sk = s0 ∧ ∃ bn, 0 ≤ s1 ∧ ns[s1.toNat]? = some bn ∧ bn.op = 12 ∧ bn.l = [m, y]) := Lib.hid (by
    rintro sk m ⟨s, bl, bn, h0, hs, ho, hl, hb0, hbn, hbo, hbl⟩
    rw [hq.out.2.1] at hs
    injection hs with hs
    rw [← hs] at hl
    simp at hl
    rw [← hl.2] at hb0 hbn
    exact ⟨hl.1.symm, bn, hb0, hbn, hbo, hbl⟩)
  clear c1r
  cases is2
  · have HB := Lib.hid hB4a
    clear his2 hsl4 hB4 hB4a
    have hno : ∀ sk m, ¬ Blinds ns x y sk m := by
      intro sk m q
      obtain ⟨_, bn, h0, hs, ho, _⟩ := hBL.out sk m q
      rcases HI2.out with ⟨q, _⟩ | ⟨_, q⟩
      · cases q
      · exact q bn h0 hs ho
    have HNO := Lib.hid hno
    clear hno
    go_wp2_with fail
    go_ret2
    exact ⟨0, 40, ns, rfl, (HAR.out).below HB.out, Af.of HB.out HBASE.out, Grow.refl _ _, W64.zero, ⟨fun _ sk m q => absurd q (HNO.out sk m), fun _ _ => rfl⟩⟩
  obtain ⟨b0, b1, hl1⟩ := len2 (nd_len HAR.out his2 (k := 2) (by decide))
  have hbw := nd_w64 HAR.out his2
  obtain ⟨qop, qn, qst, ql⟩ := pn
  simp only at hl1
  subst hl1
  obtain ⟨al2, rfl⟩ := sl_some hsl4 (by simp)
  have HBW : Hid (W64 b0) := Lib.hid (hbw b0 (by simp))
  have hp : Hid (0 ≤ s1 ∧ ns[s1.toNat]? = some ⟨qop, qn, qst, [b0, b1]⟩ ∧ qop = 12) := Lib.hid (by
    rcases HI2.out with ⟨_, q1, q2, q3⟩ | ⟨q, _⟩
    · exact ⟨q1, q2, q3⟩
    · cases q)
  obtain ⟨W5, hW5⟩ : ∃ W5, w4.alloc (.cells #[.int .i64 qop, .int .i64 qn, .string qst, .slice (some al2) 2 d2] 56) = W5 := ⟨_, rfl⟩
  have hk4 : W5.heap[g]? = some (.cells #[.int .i64 nop, .int .i64 nn, .string nst, .slice (some al) 2 d] 56 (0, 0)) := by
    have hg4 : g < w4.heap.size := by have := hB4.size; have := HSZ.out; omega
    rw [← hW5, Below.heap_alloc _ _ _ hg4, hB4.block g (by have := HSZ.out; omega)]
    exact HK3.out
  have hs5 : Sl W5 (some al2) 2 d2 (iv [b0, b1]) := by rw [← hW5]; exact hsl4.alloc _
  have hs6 : Sl W5 (some al) 2 d (iv [s0, s1]) := by rw [← hW5]; exact (HSL.out.below hB4).alloc _
  have c0 := sl_c0 hs5 (v := b0) rfl
  have c1 := sl_cs hs5 0 (v := b1) rfl
  have c2 := sl_c0 hs6 (v := s0) rfl
  have c3 : W5.cell? ⟨g, 3, none⟩ = some (.slice (some al) 2 d) := cell_of hk4 3
  have c4 : W5.cell? ⟨w4.heap.size, 3, none⟩ = some (.slice (some al2) 2 d2) := by rw [← hW5]; simp
  have c1r := c1
  rw [← hW5] at c1r
  have HW5 := Lib.hid hW5
  have hB5 : Below w.heap.size w W5 := by rw [← hW5]; exact hB4a
  have HB5 := Lib.hid hB5
  have hR5 := (HAR.out).below hB5
  have hA5 := Af.of hB5 HBASE.out
  have HR5 := Lib.hid hR5; have HA5 := Lib.hid hA5
  clear hsl4 hB4 hB4a his2 hk4 hs5 hs6 hW5 hB5 hR5 hA5 hbw
  by_cases hs : b1 = y
  rotate_left
  · have t2 : (b1 != y) = true := by rw [bne_iff_ne]; exact hs
    have HS : Hid (¬ b1 = y) := Lib.hid hs
    clear hs
    go_wp2_with fail
    go_ret2
    rw [HW5.out]
    have hno : ∀ sk m, ¬ Blinds ns x y sk m := by
      intro sk m q
      obtain ⟨_, bn, h0, hs, ho, hl⟩ := hBL.out sk m q
      rw [hp.out.2.1] at hs
      injection hs with hs
      rw [← hs] at hl
      simp at hl
      exact HS.out hl.2
    exact ⟨0, 40, ns, rfl, HR5.out, HA5.out, Grow.refl _ _, W64.zero, ⟨fun _ sk m q => absurd q (hno sk m), fun _ _ => rfl⟩⟩
  subst hs
  have t2 : (b1 != b1) = false := by simp
  have hb5 := HR5.out.base_le
  have HOF := Lib.hid (of_ok base b ns 10 (some ⟨W5.heap.size, 0, none⟩) 2 2 [s0, b0] (W5.drew.alloc (.cells #[.int .i64 s0, .int .i64 b0] 3)) ((HR5.out.drewN 1).alloc _) (sl_row W5.drew [s0, b0] (by simp [maxLen])) (by unfold W64; omega) (by simp; exact ⟨HSW.out, HBW.out⟩) (((HT.out).on HA5.out.below).on (((Below.refl _ W5).drew).alloc (by exact hb5) _)))
  go_wp2_with fail
  rw [HW5.out]
  clear c1r
  go_region_law (first | (go_simp; go_at_call 31; refine HOF.out.mono ?_; rintro e w6 hP; obtain ⟨t, er, ns3, rfl, hR3, hA3, hG3, hW3, hM3⟩ := hP.gr))
  all_goals
    have HR3 := Lib.hid hR3; have HA3 := Lib.hid hA3; have HM3 := Lib.hid hM3; have HG3 := Lib.hid hG3; have HW3' := Lib.hid hW3
    clear hP hR3 hA3 hM3 hG3 hW3
    go_simp
    go_wp2_with fail
    go_ret2
    refine ⟨t, er, ns3, rfl, HR3.out, HA5.out.trans ((Af.of (((Below.refl _ W5).drew).alloc (Nat.le_refl _) _) hb5).trans HA3.out), HG3.out, HW3'.out, ⟨fun _ sk m q => ?_, fun _ q => absurd ?_ (q s0 b0)⟩⟩
    · obtain ⟨rfl, bn, h0, hs, ho, hl⟩ := hBL.out sk m q
      rw [hp.out.2.1] at hs
      injection hs with hs
      rw [← hs] at hl
      simp at hl
      rw [← hl]
      exact HM3.out
    · exact ⟨_, s1, _, hq.out.1, hq.out.2.1, hq.out.2.2, rfl, hp.out.1, hp.out.2.1, hp.out.2.2, rfl⟩
end Go.Proofs.YthbfaledmoobjaaDoor
