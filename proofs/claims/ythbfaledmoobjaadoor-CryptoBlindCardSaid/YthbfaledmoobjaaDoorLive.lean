/- The walk of the law's live. -/
import Derived.Test.YthbfaledmoobjaaDoorGrown
namespace Go.Proofs.YthbfaledmoobjaaDoor
open Go.RowKit

theorem may_list {ns : List NN} : May ns (ofN 3 []) :=
  ⟨by show arF 3 ≠ -2; decide, fun q => absurd q (by show ¬ (0 : Int) ≤ arF 3; decide), by show 0 ≤ 64; omega, by show (0 : Int) ≤ 0; omega, by show 0 ≤ 200; omega, fun _ => rfl, fun _ => rfl, by show ∀ t ∈ ([] : List Int), _; simp, fun q => absurd q (by show ¬ (3 : Int) = 6; decide)⟩
theorem known1 {ns : List NN} {a : Int} (ha : hasF ns a = true) : knownF ns [a] = true := by simp [knownF, ha]
theorem known2 {ns : List NN} {a b : Int} (ha : hasF ns a = true) (hb : hasF ns b = true) : knownF ns [a, b] = true := by simp [knownF, ha, hb]
theorem known3 {ns : List NN} {a b c : Int} (ha : hasF ns a = true) (hb : hasF ns b = true) (hc : hasF ns c = true) : knownF ns [a, b, c] = true := by simp [knownF, ha, hb, hc]
theorem known4 {ns : List NN} {a b c d : Int} (ha : hasF ns a = true) (hb : hasF ns b = true) (hc : hasF ns c = true) (hd : hasF ns d = true) : knownF ns [a, b, c, d] = true := by simp [knownF, ha, hb, hc, hd]
/-- t is the term of a node -/
def IsT (ns : List NN) (t : Int) (x : NN) : Prop := 0 ≤ t ∧ ns[t.toNat]? = some x
theorem IsT.grow {a b : List NN} {k : Nat} {t : Int} {x : NN} (h : IsT a t x) (g : Grow a b k) : IsT b t x := ⟨h.1, g.at_ h.2⟩
theorem IsT.has {ns : List NN} {t : Int} {x : NN} (h : IsT ns t x) : hasF ns t = true := hasF_at h.1 h.2
theorem IsT.uniq {ns : List NN} {t : Int} {x y : NN} (h : IsT ns t x) (g : IsT ns t y) : x = y := by
  have := h.2.symm.trans g.2
  injection this
theorem Mk.isT {ns ns' : List NN} {x : NN} {t er : Int} (h : Mk ns x t er ns') (hm : May ns x) (hl : ns.length < 100000) : er = 0 ∧ IsT ns' t x := by
  obtain ⟨h1, h2, h3⟩ := h.ok hm hl
  exact ⟨h1, h2, h3⟩
/-- two terms of one node are one -/
theorem AR.inj {w : World} {base b : Nat} {ns : List NN} (h : AR w base b ns) {s t : Int} {x : NN} (hs : IsT ns s x) (ht : IsT ns t x) : s = t := by
  obtain ⟨_, _, _, _, _, F, _, _, _, _, _, _, _, h8⟩ := h
  have e1 := (h8.key (keyL x) s.toNat).2 ⟨s.toNat, x, rfl, hs.2, rfl⟩
  have e2 := (h8.key (keyL x) t.toNat).2 ⟨t.toNat, x, rfl, ht.2, rfl⟩
  rw [e1] at e2
  injection e2 with e2
  have := hs.1; have := ht.1; omega
set_option maxRecDepth 100000 in
set_option maxHeartbeats 8000000 in
theorem live_ok (w : World) (hT : Tb w.heap.size w) :
    Calls Tryd.prog 8 #[] w fun e w' => e = .returned (.bool true) ∧ Below w.heap.size w w' := by
  have HNEW := Lib.hid (new_ok w)
  obtain ⟨B, hBe⟩ : ∃ B, w.heap.size = B := ⟨_, rfl⟩
  have HT := Lib.hid hT
  rw [hBe] at HNEW HT ⊢
  clear hT hBe
  go_enter Tryd.func8, Tryd.ntmps8
  go_wp2_with (go_at_call 26; refine HNEW.out.mono ?_; rintro e w1 ⟨b, rfl, hR1, hB1⟩; refine Hid.out ?_)
  refine Lib.hid ?_
  have HF1 := Lib.hid (fresh_ok B b [] 1 w1 hR1 (by unfold W64; omega) (HT.out.on hB1))
  have HB1 := Lib.hid hB1
  clear hR1 hB1
  go_wp2_with (go_at_call 20; refine HF1.out.mono ?_; rintro e w2 hP; obtain ⟨sk, e1, ns2, rfl, hR2, hA2, hG2, hW2, hM2⟩ := hP.gr; refine Hid.out ?_)
  refine Lib.hid ?_
  obtain ⟨rfl, hsk⟩ := hM2.isT (x := atomN 1) (may_atom (by omega)) (by simp)
  have hl2 : ns2.length ≤ 1 := by have := hG2.2; simpa using this
  have hB2 := (HB1.out).trans hA2.below
  have HF2 := Lib.hid (fresh_ok B b ns2 2 w2 hR2 (by unfold W64; omega) (HT.out.on hB2))
  have HB2 := Lib.hid hB2; have HSK := Lib.hid hsk; have HW2 := Lib.hid hW2
  clear hP hR2 hA2 hG2 hM2 hB2 hsk hW2
  go_wp2_with (go_at_call 20; refine HF2.out.mono ?_; rintro e w3 hP; obtain ⟨ot, e1, ns3, rfl, hR3, hA3, hG3, hW3, hM3⟩ := hP.gr; refine Hid.out ?_)
  refine Lib.hid ?_
  obtain ⟨rfl, hot⟩ := hM3.isT (x := atomN 2) (may_atom (by omega)) (by omega)
  have hl3 : ns3.length ≤ 2 := by have := hG3.2; omega
  have hsk3 := (HSK.out).grow hG3
  have hB3 := (HB2.out).trans hA3.below
  have HP3 := Lib.hid (public_ok B b ns3 sk w3 hR3 HW2.out (HT.out.on hB3))
  have HB3 := Lib.hid hB3; have HSK3 := Lib.hid hsk3; have HOT := Lib.hid hot; have HW3 := Lib.hid hW3
  clear hP hR3 hA3 hG3 hM3 hB3 hsk3 hot hW3
  go_wp2_with (go_at_call 19; refine HP3.out.mono ?_; rintro e w4 hP; obtain ⟨pk, e1, ns4, rfl, hR4, hA4, hG4, hW4, hM4⟩ := hP.gr; refine Hid.out ?_)
  refine Lib.hid ?_
  obtain ⟨rfl, hpk⟩ := hM4.isT (may_of (by simp [arF]) (by simp) (known1 HSK3.out.has) (by decide)) (by omega)
  have hl4 : ns4.length ≤ 3 := by have := hG4.2; omega
  have hsk4 := (HSK3.out).grow hG4
  have hot4 := (HOT.out).grow hG4
  have hB4 := (HB3.out).trans hA4.below
  have HL4 := Lib.hid (all_ok B b ns4 none 0 0 [] w4 hR4 (Sl.none w4) (by simp) (HT.out.on hB4))
  have HB4 := Lib.hid hB4; have HSK4 := Lib.hid hsk4; have HOT4 := Lib.hid hot4; have HPK := Lib.hid hpk; have HW4 := Lib.hid hW4
  clear hP hR4 hA4 hG4 hM4 hB4 hsk4 hot4 hpk hW4
  go_wp2_with (go_at_call 27; refine HL4.out.mono ?_; rintro e w5 hP; obtain ⟨no, e1, ns5, rfl, hR5, hA5, hG5, hW5, hM5⟩ := hP.gr; refine Hid.out ?_)
  refine Lib.hid ?_
  obtain ⟨rfl, hno⟩ := hM5.isT may_list (by omega)
  have hl5 : ns5.length ≤ 4 := by have := hG5.2; omega
  have hsk5 := (HSK4.out).grow hG5
  have hot5 := (HOT4.out).grow hG5
  have hpk5 := (HPK.out).grow hG5
  have hB5 := (HB4.out).trans hA5.below
  have HS5 := Lib.hid (seal_ok B b ns5 pk no ot ot w5 hR5 HW4.out hW5 HW3.out HW3.out (HT.out.on hB5))
  have HB5 := Lib.hid hB5; have HSK5 := Lib.hid hsk5; have HOT5 := Lib.hid hot5; have HPK5 := Lib.hid hpk5; have HNO := Lib.hid hno
  clear hP hR5 hA5 hG5 hM5 hB5 hsk5 hot5 hpk5 hno hW5
  go_wp2_with (go_at_call 21; refine HS5.out.mono ?_; rintro e w6 ⟨x, e1, ns6, rfl, hR6, hA6, hG6, hW6, hS6⟩; refine Hid.out ?_)
  refine Lib.hid ?_
  obtain ⟨rfl, hx⟩ := (hS6 _ HPK5.out.1 HPK5.out.2 rfl).isT (may_of (by simp [arF]) (by simp) (known4 HPK5.out.has HNO.out.has HOT5.out.has HOT5.out.has) (by decide)) (by omega)
  have hsk6 := (HSK5.out).grow hG6
  have hot6 := (HOT5.out).grow hG6
  have hpk6 := (HPK5.out).grow hG6
  have hno6 := (HNO.out).grow hG6
  have hB6 := (HB5.out).trans hA6.below
  have HO6 := Lib.hid (open_ok B b ns6 sk no x w6 hR6)
  have HR6 := Lib.hid hR6
  have HB6 := Lib.hid hB6; have HSK6 := Lib.hid hsk6; have HOT6 := Lib.hid hot6; have HPK6 := Lib.hid hpk6; have HNO6 := Lib.hid hno6; have HX := Lib.hid hx
  clear hR6 hA6 hG6 hS6 hB6 hsk6 hot6 hpk6 hno6 hx hW6
  go_wp2_with (go_at_call 12; refine HO6.out.mono ?_; rintro e w7 ⟨y, e1, rfl, hB7, hO7⟩; refine Hid.out ?_)
  refine Lib.hid ?_
  have hy : e1 = 0 ∧ y = ot := by
    rcases hO7 with ⟨q, _⟩ | ⟨_, q, _⟩ | ⟨_, ⟨n, p0, dr, pn, h0, hn, ho, hnl, _⟩, he⟩
    · rw [known3 HSK6.out.has HNO6.out.has HX.out.has] at q; cases q
    · exact absurd ⟨_, pk, ot, _, HX.out.1, HX.out.2, rfl, rfl, HPK6.out.1, HPK6.out.2, rfl, rfl⟩ (q ot)
    · refine ⟨he, ?_⟩
      rw [HX.out.2] at hn
      injection hn with hn
      rw [← hn] at hnl
      simp [ofN] at hnl
      exact hnl.2.1.symm
  obtain ⟨rfl, rfl⟩ := hy
  have HO7 := Lib.hid (open_ok B b ns6 y no x w7 ((HR6.out).below hB7))
  have HB7 := Lib.hid ((HB6.out).trans (hB7.mono HR6.out.base_le))
  have HR7 := Lib.hid ((HR6.out).below hB7)
  clear hB7 hO7
  go_wp2_with (go_at_call 12; refine HO7.out.mono ?_; rintro e w8 ⟨y2, e1, rfl, hB8, hO8⟩; refine Hid.out ?_)
  refine Lib.hid ?_
  have hk : e1 = 40 := by
    rcases hO8 with ⟨q, _⟩ | ⟨_, _, _, q⟩ | ⟨_, ⟨n, p0, dr, pn, h0, hn, ho, hnl, h1, hp, hpo, hpl⟩, he⟩
    · rw [known3 HOT6.out.has HNO6.out.has HX.out.has] at q; cases q
    · exact q
    · exfalso
      rw [HX.out.2] at hn
      injection hn with hn
      rw [← hn] at hnl
      simp [ofN] at hnl
      rw [← hnl.1, HPK6.out.2] at hp
      injection hp with hp
      rw [← hp] at hpl
      simp [ofN] at hpl
      have := (HSK6.out).uniq (hpl ▸ HOT6.out)
      simp [atomN] at this
  subst hk
  have HB8 := Lib.hid ((HB7.out).trans (hB8.mono HR7.out.base_le))
  clear hB8 hO8
  go_wp2_with fail
  go_ret
  exact ⟨rfl, HB8.out⟩
end Go.Proofs.YthbfaledmoobjaaDoor
