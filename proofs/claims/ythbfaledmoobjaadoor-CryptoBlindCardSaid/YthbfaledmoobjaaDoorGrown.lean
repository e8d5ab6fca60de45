/- The walk of grown. -/
import Derived.Test.YthbfaledmoobjaaDoorOps
namespace Go.Proofs.YthbfaledmoobjaaDoor
open Go.RowKit

def atomN (n : Int) : NN := ⟨1, n, ⟨#[]⟩, []⟩
theorem may_atom {ns : List NN} {n : Int} (hn : 0 ≤ n) : May ns (atomN n) :=
  ⟨by show arF 1 ≠ -2; decide, fun _ => rfl, by show 0 ≤ 64; omega, hn, by show 0 ≤ 200; omega, fun q => absurd rfl q, fun _ => rfl, by show ∀ t ∈ ([] : List Int), _; simp, fun q => absurd q (by show ¬ (1 : Int) = 6; decide)⟩
/-- an arena of nodes without parts, while a row of numbers is written -/
theorem AR.grown {w w' : World} {base b : Nat} {ns : List NN} {row : Option Nat} (h : AR w base b ns) (hl : ∀ x ∈ ns, x.l = []) (hg : w.grownBy w' row) (hr : ∀ g, row = some g → ∃ c fz, w.heap[g]? = some (Obj.cells c 3 fz)) : AR w' base b ns := by
  obtain ⟨A, c, M, k, xs, F, g1, g2, g3, g4, g5, g6, g7, g8⟩ := h
  have keep : ∀ (k : Nat) (o : Obj), w.heap[k]? = some o → (∀ c fz, o ≠ .cells c 3 fz) → w'.heap[k]? = some o := fun k o hk ho => by
    rw [hg.block k (Array.getElem?_eq_some_iff.1 hk).1 (fun e => by obtain ⟨c, fz, hh⟩ := hr k e.symm; rw [hk] at hh; injection hh with hh; exact ho _ _ hh)]
    exact hk
  obtain ⟨es, clock, hM⟩ := g5.isMap
  refine ⟨A, c, M, k, xs, F, g1, keep b _ g2 (fun c fz e => by injection e with _ e; cases e), ?_, g4, g5.block ((keep M _ hM (fun c fz e => by cases e)).trans hM.symm), g6, fun j x hx => ?_, g8⟩
  · refine ⟨g3.1, ?_⟩
    rcases g3.2 with q | ⟨g, cap, cur, hv, hb2, hh, r⟩
    · exact .inl q
    · exact .inr ⟨g, cap, cur, hv, hb2, keep g _ hh (fun c fz e => by injection e with _ e; cases e), r⟩
  · obtain ⟨B, m, d, e0, e1, e2, e3, e4, e5⟩ := g7 j x hx
    have hx0 := hl x (List.mem_of_getElem? hx)
    refine ⟨B, m, d, e0, e1, e2, e3, ⟨e4.len, e4.cap, e4.top, .inl (by rw [hx0]; rfl)⟩, .inl hx0, .inl hx0⟩
theorem ow_af {w w' : World} {B C : Nat} {A : Option Addr} {n c : Nat} {xs : List Value} (h : Ow w B 3 1 A n c xs) (hA : Af C w w') : Ow w' B 3 1 A n c xs := by
  refine ⟨h.1, ?_⟩
  rcases h.2 with q | ⟨g, cap, cur, hv, hb, hh, r⟩
  · exact .inl q
  · exact .inr ⟨g, cap, cur, hv, hb, hA.nums _ _ _ hh, r⟩
theorem ow_blk {w : World} {B : Nat} {A : Option Addr} {n c : Nat} {xs : List Value} (h : Ow w B 3 1 A n c xs) : ∀ g, (Value.slice A n c).ownBlock = some g → ∃ c fz, w.heap[g]? = some (Obj.cells c 3 fz) := by
  intro g hg
  rcases h.2 with ⟨hv, _⟩ | ⟨g2, cap, cur, hv, hb, hh, r⟩
  · rw [hv] at hg; cases hg
  · rw [hv] at hg; injection hg with hg; subst hg; exact ⟨_, _, hh⟩
/-- the secrets that were drawn -/
def Outs (ns : List NN) (l : List Int) : Prop := ∀ (j : Nat) (t : Int), l[j]? = some t → 0 ≤ t ∧ ns[t.toNat]? = some (atomN (100 + (j : Int)))
theorem Outs.grow {a b : List NN} {k : Nat} {l : List Int} (h : Outs a l) (g : Grow a b k) : Outs b l := fun j t hj => ⟨(h j t hj).1, g.at_ (h j t hj).2⟩
theorem Outs.snoc {ns : List NN} {l : List Int} {t : Int} (h : Outs ns l) (h0 : 0 ≤ t) (ht : ns[t.toNat]? = some (atomN (100 + (l.length : Int)))) : Outs ns (l ++ [t]) := by
  intro j u hj
  by_cases hl : j < l.length
  · rw [List.getElem?_append_left hl] at hj; exact h j u hj
  · rw [List.getElem?_append_right (by omega)] at hj
    have := (List.getElem?_eq_some_iff.1 hj).1
    simp at this
    have e : j = l.length := by omega
    subst e
    simp at hj
    subst hj
    exact ⟨h0, ht⟩
def GwP (w : World) (e : Ending) (w' : World) : Prop :=
  ∃ b O oc outs ns, e = .returned (.tuple #[.pointer (some ⟨b, 0, none⟩), .slice O 5 oc]) ∧ AR w' w.heap.size b ns ∧ Below w.heap.size w w' ∧ ns.length ≤ 605 ∧ Sl w' O 5 oc (iv outs) ∧ NumsB w.heap.size w' O outs ∧ outs.length = 5 ∧ Outs ns outs
set_option maxRecDepth 100000 in
set_option maxHeartbeats 8000000 in
theorem grown_ok (A : Option Addr) (n c : Nat) (l : List OpN) (w : World) (h : Os w A n c l) (hf : Few l) (hw : Hid (∀ o ∈ l, OWf o)) (hT : Tb w.heap.size w) :
    Calls Tryd.prog 10 #[.slice A n c] w (GwP w) := by
  have hn : n ≤ 200 := by have := hf.1; rwa [h.len] at this
  have HNEW := Lib.hid (new_ok w)
  have HT := Lib.hid hT
  have HO := Lib.hid h
  obtain ⟨B, hBe⟩ : ∃ B, w.heap.size = B := ⟨_, rfl⟩
  have HBE := Lib.hid hBe
  rw [hBe] at HNEW HT
  clear hf hT hBe h
  go_enter Tryd.func10, Tryd.ntmps10
  go_wp2_with (go_at_call 26; refine HNEW.out.mono ?_; rintro e w1 ⟨b, rfl, hR1, hB1⟩; refine Hid.out ?_)
  refine Lib.hid ?_
  have HR1 := Lib.hid hR1; have HB1 := Lib.hid hB1
  have hb1 : B ≤ w1.heap.size := hR1.base_le
  clear hR1 hB1
  go_wp2_with fail
  go_loopw [5, 12] (fun v i wr => ∃ (k : Nat) (A1 : Option Addr) (c1 : Nat) (outs : List Int) (ns : List NN), k ≤ 5 ∧ i = .int .i64 (k : Int) ∧ v = .slice A1 k c1 ∧ Hid (outs.length = k) ∧ Hid (Ow wr w1.heap.size 3 1 A1 k c1 (iv outs)) ∧ Hid (AR wr B b ns) ∧ Hid (ns.length ≤ k ∧ (∀ x ∈ ns, x.l = []) ∧ Outs ns outs) ∧ Hid (Below B w wr) ∧ w1.heap.size ≤ wr.heap.size) (fun _ i _ => 5 - (intOf i).toNat)
  case atStart => exact ⟨0, none, 0, [], [], by omega, rfl, rfl, Lib.hid rfl, Lib.hid (Ow.nil _ _ _ _), HR1, Lib.hid ⟨by simp, by simp, fun j t hj => by simp at hj⟩, HB1, Nat.le_refl _⟩
  case round =>
    obtain ⟨k, A1, c1, outs, ns, hk, rfl, rfl, HOL, HOW, HAR, HNS, HBW, hsz⟩ := hrel
    by_cases hlt : k < 5
    · have HF := Lib.hid (fresh_ok B b ns (100 + (k : Int)) wr HAR.out (by unfold W64; omega) (HT.out.on HBW.out))
      have t1 : decide ((k : Int) < 5) = true := decide_eq_true (by omega)
      go_wp2_with (go_at_call 20; refine HF.out.mono ?_; rintro e w5 hP; obtain ⟨t, er, ns2, rfl, hR5, hA5, hG5, hW5, hM5⟩ := hP.gr; refine Hid.out ?_)
      refine Lib.hid ?_
      have hok := hM5.ok (may_atom (by omega)) (by have := HNS.out.1; omega)
      have hO5 := ow_af HOW.out hA5
      have hl2 : ∀ x ∈ ns2, x.l = [] := by
        rcases hM5 with ⟨_, _, _, rfl⟩ | ⟨_, _, _, _, rfl⟩ | ⟨_, _, _, _, _, rfl⟩ | ⟨_, _, _, _, _, rfl⟩
        · exact HNS.out.2.1
        · exact HNS.out.2.1
        · exact HNS.out.2.1
        · intro x hx
          rcases List.mem_append.1 hx with hx | hx
          · exact HNS.out.2.1 x hx
          · rw [List.mem_singleton] at hx; subst hx; rfl
      have hOA := hO5.alloc (.cells #[.int .i64 t] 3)
      have HOA := Lib.hid hOA
      have hs5 : w1.heap.size ≤ w5.heap.size := Nat.le_trans hsz hA5.size
      have HR5 := Lib.hid hR5; have HA5 := Lib.hid hA5; have HG5 := Lib.hid hG5; have HOK := Lib.hid hok; have HL2 := Lib.hid hl2
      clear hP hR5 hA5 hG5 hM5 hok hl2 hW5 hO5
      go_wp2_with (at_builtin; refine wpList_app (o := ⟨some 25, _, _, _, _, _⟩) E26 rfl rfl rfl hOA rfl (lies_new w5 _ 3) rfl (by simp [Value.oneCell']) (by unfold maxLen; omega) (by omega) (by simp; omega) ?_; intro A6 c6 w6 hO6 hG6 hB6; refine Hid.out ?_)
      refine Lib.hid ?_
      have hR6 := ((HR5.out).alloc (.cells #[.int .i64 t] 3)).grown HL2.out hG6 (ow_blk HOA.out)
      have hB56 : Below B w5 w6 := ((Below.refl B w5).alloc (by omega) _).trans (hB6.mono (by omega))
      have hs6 : w1.heap.size ≤ w6.heap.size := by have := hB56.size; omega
      have HR6 := Lib.hid hR6; have HO6 := Lib.hid hO6
      have HB6 := Lib.hid ((HBW.out).trans (HA5.out.below.trans hB56))
      clear hR6 hO6 hG6 hB6 hOA hB56
      go_wp2_with fail
      go_roundw
      case rel => exact ⟨k + 1, A6, c6, outs ++ [t], ns2, by omega, by go_num, rfl, Lib.hid (by rw [List.length_append, HOL.out]; rfl), Lib.hid (by rw [iv_append]; exact HO6.out), HR6, Lib.hid ⟨by have := HG5.out.2; have := HNS.out.1; omega, HL2.out, ((HNS.out.2.2).grow HG5.out).snoc HOK.out.2.1 (by rw [HOL.out]; exact HOK.out.2.2)⟩, HB6, hs6⟩
      case measure => simp [intOf]; omega
    · have HK5 : Hid (k = 5) := Lib.hid (by omega)
      have t1 : decide ((k : Int) < 5) = false := decide_eq_false (by omega)
      clear hlt hk
      go_wp2_with fail
      have hR0 := HAR.out
      have hsl0 := HOW.out.sl
      have hnm0 := ow_nums HOW.out
      have HSL := Lib.hid hsl0; have HNM := Lib.hid hnm0
      obtain ⟨w7, rfl⟩ : ∃ w7, w7 = wr := ⟨_, rfl⟩
      clear hR0 hsl0 hnm0
      go_loopw [29] (fun i wz => ∃ (k : Nat) (ns2 : List NN), k ≤ n ∧ i = .int .i64 (k : Int) ∧ Hid (AR wz B b ns2) ∧ Hid (Grow ns ns2 (3 * k)) ∧ Hid (Af B w7 wz)) (fun i _ => n - (intOf i).toNat)
      case atStart => exact ⟨0, ns, Nat.zero_le _, rfl, HAR, Lib.hid (Grow.refl _ _), Lib.hid (Af.refl _ _)⟩
      case round =>
        obtain ⟨q, ns2, hq, rfl, HR, HG, HA⟩ := hrel
        have hBz : Below w.heap.size w w7 := by rw [HBE.out]; exact HBW.out
        by_cases hlt : q < n
        · obtain ⟨ad, o, rfl, hko, hat⟩ := ((HO.out).below (by rw [HBE.out]; exact HBW.out.trans HA.out.below)).at_ hlt
          obtain ⟨c0, c1, c2, c3, c4, c5⟩ := hat
          have HOW2 := Lib.hid (hw.out o (List.mem_of_getElem? hko))
          have hTz := HT.out.on (HBW.out.trans HA.out.below)
          have hbz : B ≤ wr.heap.size := HR.out.base_le
          have HBD := Lib.hid (body_ok B b ns2 o _ ((HR.out).alloc (.cells #[.int .i64 o.k, .int .i64 o.a, .int .i64 o.b, .int .i64 o.c, .int .i64 o.d, .string o.s] 46)) HOW2.out (hTz.on ((Below.refl _ wr).alloc hbz _)))
          have HBZ := Lib.hid hbz
          clear hko hTz hbz hBz
          go_wp2_with (go_at_call 28; refine HBD.out.mono ?_; rintro e w9 ⟨v, ns3, rfl, hR3, hA3, hG3⟩; refine Hid.out ?_)
          refine Lib.hid ?_
          have HR3 := Lib.hid hR3; have HG3 := Lib.hid hG3
          have HA3 := Lib.hid (HA.out.trans ((Af.row HBZ.out _).trans hA3))
          clear hR3 hA3 hG3
          go_wp2_with fail
          go_roundw
          case rel => exact ⟨q + 1, ns3, by omega, by go_num, HR3, Lib.hid (HG.out.trans HG3.out (by omega)), HA3⟩
          case measure => simp [intOf]; omega
        · obtain rfl : q = n := by omega
          clear hlt
          go_wp2_with fail
          go_ret2
          have hl1 := HNS.out.1
          have hl2 := HG.out.2
          refine ⟨b, A1, c1, outs, ns2, by rw [HK5.out]; rfl, by rw [HBE.out]; exact HR.out, hBz.trans (by rw [HBE.out]; exact HA.out.below), by have := HK5.out; omega, ?_, ?_, by rw [HOL.out, HK5.out], (HNS.out.2.2).grow HG.out⟩
          · rw [← HK5.out]; exact sl_nums HSL.out HNM.out HA.out.nums
          · refine ⟨nums_nums HNM.out HA.out.nums, .inr (fun a ha => ?_)⟩
            have := (World.ownsRow.lt HOW.out a.block (by rw [ha]; rfl)).1
            have := HBE.out
            omega
end Go.Proofs.YthbfaledmoobjaaDoor
