/- The walks of the reference's welcome, Welcome, TakeWelcome, SameWelcome. -/
import Derived.Test.YtjebmmmjjiomfaaRWTree
import Derived.Test.YtjebmmmjjiomfaaRFTree
import Derived.Test.YtjebmmmjjiomfaaCRWel
namespace Go.Proofs.Ytjebmmmjjiomfaa
open Go.RowKit

theorem KX.grown {w w6 : World} {v : Value} (hG : w.grownBy w6 v.ownBlock) : KX (fun b => v.ownBlock = some b) w w6 :=
  ⟨(Below.refl 0 w).grown hG (Nat.zero_le _) (fun _ _ => Nat.zero_le _), fun b hb hx => hG.block b hb (fun e => hx e.symm)⟩
set_option maxRecDepth 100000 in
set_option maxHeartbeats 8000000 in
theorem rwwelcome_ok (A : Option Addr) (n c : Nat) (x : WM) (w : World) (hT : Ts w A n c x.tree) (hw : Hid (wt x.tree ≤ 268435456)) :
    Calls Try.prog 73 #[wv x A n c] w (PEnd (welcomeB x) (wt x.tree + 64) w) := by
  obtain ⟨g, hg⟩ : ∃ g, w.heap.size = g := ⟨_, rfl⟩
  obtain ⟨wb, hwb⟩ : ∃ wb, w.alloc (.cells (wc x A n c) 58) = wb := ⟨_, rfl⟩
  obtain ⟨wr, hwr⟩ : ∃ wr, wb.alloc (.cells #[.int .i64 x.at_, .int .i64 x.by_, .int .i64 x.id, .int .i64 x.epoch] 3) = wr := ⟨_, rfl⟩
  have hzb : wb.heap.size = g + 1 := by rw [← hwb]; simp [hg]
  have hBb : Below w.heap.size w wb := by rw [← hwb]; exact nxa (Below.refl _ _) _
  have hBr : Below w.heap.size w wr := by rw [← hwr]; exact nxa hBb _
  have k0 : wr.heap[g]? = some (.cells (wc x A n c) 58) := by rw [← hwr, Below.heap_alloc _ _ _ (by omega), ← hwb, ← hg]; exact heap_alloc_new _ _
  have hrow : Sl wr (some ⟨g + 1, 0, none⟩) 4 4 (iv [x.at_, x.by_, x.id, x.epoch]) := by
    have := Sl.lit wb [x.at_, x.by_, x.id, x.epoch] #[.int .i64 x.at_, .int .i64 x.by_, .int .i64 x.id, .int .i64 x.epoch] rfl 4 rfl (by omega)
    rwa [hwr, hzb] at this
  have HC := Lib.hid (rwints_ok (some ⟨g + 1, 0, none⟩) 4 4 [x.at_, x.by_, x.id, x.epoch] wr hrow (by show _ ≤ _; omega))
  have HWB := Lib.hid hwb; have HWR := Lib.hid hwr; have HB := Lib.hid hBr; have K0 := Lib.hid k0; have HT := Lib.hid hT
  have hgr : g < wr.heap.size := (Array.getElem?_eq_some_iff.1 k0).1
  have hwt := hw.out
  have hwwr : w.heap.size ≤ wr.heap.size := hBr.size
  clear hwb hwr hzb hBb hBr k0 hrow hT
  unfold wv
  go_enter Try.func73, Try.ntmps73
  go_wp2_with fail
  rw [HWB.out, HWR.out]
  refine HC.out.mono ?_
  rintro e w1 ⟨b1, yes1, A1, c1, rfl, hO1, hl1, ho1, hB1⟩
  have m0 := (hB1.block g hgr).trans K0.out
  have hb1 := nx HB.out hB1
  have HC2 := Lib.hid (rwtree_ok A n c x.tree w1 (HT.out.below hb1) (by show _ ≤ _; omega))
  have g4 := cell_of m0 4
  have HO1 := Lib.hid hO1; have HQ1 := Lib.hid ho1; have HB1 := Lib.hid hb1; have M0 := Lib.hid m0
  have hs1 := hB1.size
  clear hO1 ho1 hb1 hB1 m0
  go_wp2_with fail
  refine HC2.out.mono ?_
  rintro e w2 ⟨b2, yes2, A2, c2, rfl, hO2, hl2, ho2, hB2⟩
  have m0 := (hB2.block g (by omega)).trans M0.out
  have hb2 := nx HB1.out hB2
  have g5 := cell_of m0 5; have g6 := cell_of m0 6; have g7 := cell_of m0 7; have g8 := cell_of m0 8; have g9 := cell_of m0 9
  have HO1b := Lib.hid (HO1.out.below hB2); have HO2 := Lib.hid hO2; have HQ2 := Lib.hid ho2; have HB2 := Lib.hid hb2
  have hs2 := hB2.size
  obtain ⟨w3, hw3⟩ : ∃ w3, w2.alloc (.cells #[.int .i64 x.conf, .int .i64 x.ext, .int .i64 x.sig, .int .i64 x.tag, .int .i64 x.sealed_] 3) = w3 := ⟨_, rfl⟩
  have hB23 : Below w2.heap.size w2 w3 := by rw [← hw3]; exact nxa (Below.refl _ _) _
  have HC3 := Lib.hid (rwints_ok (some ⟨w2.heap.size, 0, none⟩) 5 5 [x.conf, x.ext, x.sig, x.tag, x.sealed_] w3 (by rw [← hw3]; exact Sl.lit w2 [x.conf, x.ext, x.sig, x.tag, x.sealed_] #[.int .i64 x.conf, .int .i64 x.ext, .int .i64 x.sig, .int .i64 x.tag, .int .i64 x.sealed_] rfl 5 rfl (by omega)) (by show _ ≤ _; omega))
  have HW3 := Lib.hid hw3; have H23 := Lib.hid hB23
  have hs3 := hB23.size
  clear hO2 ho2 hb2 hB2 m0 hw3 hB23 g4
  go_wp2_with fail
  rw [HW3.out]
  refine HC3.out.mono ?_
  rintro e w4 ⟨b3, yes3, A3, c3, rfl, hO3, hl3, ho3, hB3⟩
  have hO1d := (HO1b.out.below H23.out).below hB3
  have hO2d := (HO2.out.below H23.out).below hB3
  have hs4 := hB3.size
  have hbb : wr.heap.size ≤ w4.heap.size := by omega
  have HL2 := Lib.hid hO2d.lies; have HL3 := Lib.hid hO3.lies; have HB4 := Lib.hid (nx (nx HB2.out H23.out) hB3); have HQ3 := Lib.hid ho3
  have hfin : ∀ (w' : World) (A' : Option Addr) (c' : Nat) (v : Bool), Ow w' wr.heap.size 5 1 A' (b1.length + b2.length + b3.length) c' (bv b1 ++ bv b2 ++ bv b3) → Below wr.heap.size w4 w' → v = (yes1 && yes2 && yes3) →
      PEnd (welcomeB x) (wt x.tree + 64) w (.returned (.tuple #[.slice A' (b1.length + b2.length + b3.length) c', .bool v])) w' := fun w' A' c' v h1 h2 h3 => by
    refine ⟨b1 ++ b2 ++ b3, v, A', c', by rw [List.length_append, List.length_append], ?_, by rw [List.length_append, List.length_append]; omega, ?_, HB4.out.trans (h2.mono hwwr)⟩
    · rw [List.length_append, List.length_append, bv_append, bv_append]; exact h1.mono hwwr
    · unfold welcomeB
      rw [HQ1.out, HQ2.out, HQ3.out, h3]
      cases yes1 <;> cases yes2 <;> cases yes3 <;> simp [seqB]
  have HFIN := Lib.hid hfin
  have hlk : ∀ w6, w4.grownBy w6 (Value.slice A1 b1.length c1).ownBlock → Lies w6 A3 (bv b3) := fun w6 hG =>
    (hO3.kx (KX.grown hG) (fun i e h => by
      have h1 := hO3.inb e
      have h2 := (World.ownsRow.lt HO1.out i h).2
      omega)).lies
  have HLK := Lib.hid hlk
  clear hfin hO2d hO3 ho3 hB3 g5 g6 g7 g8 g9 hlk
  cases yes1
  · cases yes2 <;> cases yes3
    all_goals
      go_wp2_with (first
        | (at_builtin; refine wpList_app (o := ⟨some 46, _, _, _, _, _⟩) E23 rfl rfl rfl hO1d rfl HL2.out (by rw [bv_length, Nat.mul_one]) (bv_one _) (by unfold maxLen; omega) (by omega) hbb ?_; intro A6 c6 w6 hO6 hG6 hB6; have hl6 := HL3.out; have hz6 := hB6.size)
        | (at_builtin; refine wpList_app (o := ⟨some 48, _, _, _, _, _⟩) E23 rfl rfl rfl hO6 rfl (HLK.out w6 hG6) (by rw [bv_length, Nat.mul_one]) (bv_one _) (by unfold maxLen; omega) (by omega) (by omega) ?_; intro A7 c7 w7 hO7 hG7 hB7))
      go_ret2
      exact HFIN.out _ _ _ _ hO7 (hB6.trans hB7) rfl
  · cases yes2 <;> cases yes3
    all_goals
      go_wp2_with (first
        | (at_builtin; refine wpList_app (o := ⟨some 46, _, _, _, _, _⟩) E23 rfl rfl rfl hO1d rfl HL2.out (by rw [bv_length, Nat.mul_one]) (bv_one _) (by unfold maxLen; omega) (by omega) hbb ?_; intro A6 c6 w6 hO6 hG6 hB6; have hl6 := HL3.out; have hz6 := hB6.size)
        | (at_builtin; refine wpList_app (o := ⟨some 48, _, _, _, _, _⟩) E23 rfl rfl rfl hO6 rfl (HLK.out w6 hG6) (by rw [bv_length, Nat.mul_one]) (bv_one _) (by unfold maxLen; omega) (by omega) (by omega) ?_; intro A7 c7 w7 hO7 hG7 hB7))
      go_ret2
      exact HFIN.out _ _ _ _ hO7 (hB6.trans hB7) rfl
set_option maxRecDepth 100000 in
set_option maxHeartbeats 4000000 in
/-- the reference's Welcome -/
theorem rwelcomeW_ok (A : Option Addr) (n c : Nat) (x : WM) (w : World) (hT : Ts w A n c x.tree) (hw : Hid (wt x.tree ≤ 268435456)) :
    Calls Try.prog 41 #[wv x A n c] w (CEnd (welcomeB x) w) := by
  have hBa : Below w.heap.size w (w.alloc (.cells (wc x A n c) 58)) := nxa (Below.refl _ _) _
  have H := Lib.hid (rwwelcome_ok A n c x (w.alloc (.cells (wc x A n c) 58)) (hT.below hBa) hw)
  have HB := Lib.hid hBa
  unfold wv at H ⊢
  clear hBa hT
  go_enter Try.func41, Try.ntmps41
  go_wp2_with fail
  refine H.out.mono ?_
  rintro e w1 ⟨b, yes, A2, c2, rfl, hO, hl, ho, hB⟩
  have HT := Lib.hid (told_ok A2 b c2 yes w1)
  have HE := Lib.hid (CEnd.of (hO.mono HB.out.size) ho (nx HB.out hB))
  clear hO ho hB hl
  cases yes
  · go_wp2_with (go_at_call 63; refine HT.out.mono ?_; rintro e w2 ⟨rfl, rfl⟩)
    go_ret2
    exact HE.out
  · go_wp2_with (go_at_call 63; refine HT.out.mono ?_; rintro e w2 ⟨rfl, rfl⟩)
    go_ret2
    exact HE.out
/-- what stands while a great thing is read: the two boxes, the reader -/
structure WS (n : Nat) (T : TypeId) (f0 : Nat → Value) (w : World) (g p z : Nat) (o : Option (List UInt8)) (f : Nat → Value) (wr : World) : Prop where
  bz : Bx wr z n f T
  bg : Bx wr g n f0 T
  rf : RF (fun b => w.heap.size ≤ b) wr p o
  kx : KX (fun _ => False) w wr
  wg : w.heap.size ≤ g
  gp : g < p
  pz : p < z
section
variable {n : Nat} {T : TypeId} {f0 f : Nat → Value} {w wr w2 : World} {g p z : Nat} {o o2 : Option (List UInt8)}
theorem WS.call (h : WS n T f0 w g p z o f wr) (k : KX (· = p) wr w2) (r : RF (fun b => w.heap.size ≤ b) w2 p o2) : WS n T f0 w g p z o2 f w2 :=
  ⟨h.bz.kx k (by have := h.pz; omega), h.bg.kx k (by have := h.gp; omega), r, h.kx.next k (fun i e => .inr (by have := h.wg; have := h.gp; omega)), h.wg, h.gp, h.pz⟩
theorem WS.set (h : WS n T f0 w g p z o f wr) {j : Nat} (hj : j < n) (v : Value) : WS n T f0 w g p z o (fun i => if i = j then v else f i) (wr.setCell ⟨z, j, none⟩ v) :=
  ⟨h.bz.set hj v, h.bg.kx ((KX.refl (· = z) wr).set ⟨z, j, none⟩ v (.inl rfl)) (by have := h.gp; have := h.pz; omega), h.rf.kx ((KX.refl (· = z) wr).set ⟨z, j, none⟩ v (.inl rfl)) (fun i e _ => by have := h.wg; have := h.gp; have := h.pz; omega) (by have := h.pz; omega),
    h.kx.set ⟨z, j, none⟩ v (.inr (by have := h.wg; have := h.gp; have := h.pz; show _ ≤ z; omega)), h.wg, h.gp, h.pz⟩
theorem WS.lays (h : WS n T f0 w g p z o f wr) (vs : List Value) : Below w.heap.size w (wr.setCells g 0 vs) :=
  (h.kx.next (KX.lays wr g vs) (fun i e => .inr (by have := h.wg; omega))).below (Nat.le_refl _) (fun _ e => e.elim)
end
theorem Rd.one {k : Nat} {o o' : Option (List UInt8)} {ns : List Int} (h : Rd k o ns o') : Out (rIs k) o ns o' := h.2
def rW2 (l : List UInt8) : Option ((List TN × List Int) × List UInt8) := (rTree l).bind fun t => (rIs 5 t.2).bind fun y => some ((t.1, y.1), y.2)
theorem out_welcome {o o1 o2 o3 : Option (List UInt8)} {ns ms : List Int} {t : List TN} (h1 : Rd 4 o ns o1) (h2 : Out rTree o1 t o2) (h3 : Rd 5 o2 ms o3) : Out rWelcome o (wmOf ns t ms) o3 := by
  have k : Out rW2 o1 (t, ms) o3 := Out.chain (g := fun _ => rIs 5) (h := fun a b => (a, b)) h2 h3.2 (fun l => rfl)
  refine Out.chain (g := fun _ => rW2) (h := fun a b => wmOf a b.1 b.2) h1.2 k (fun l => ?_)
  unfold rWelcome rW2
  cases rIs 4 l with
  | none => rfl
  | some x =>
    rw [Option.bind_some, Option.bind_some]
    cases rTree x.2 with
    | none => rfl
    | some t =>
      rw [Option.bind_some, Option.bind_some]
      cases rIs 5 t.2 <;> rfl
theorem Out.full {α : Type} {f : List UInt8 → Option (α × List UInt8)} {l : List UInt8} {a : α} {o : Option (List UInt8)} (h : Out f (Option.some l) a o) : full f l = if doneO o then Option.some a else Option.none := by
  obtain ⟨k1, k2⟩ := h
  rw [Option.bind_some] at k1 k2
  unfold doneO
  cases e : f l with
  | none =>
    rw [e] at k1
    subst k1
    rw [full_none e]; rfl
  | some y =>
    rw [e] at k1
    subst k1
    show _ = if decide (Option.some y.2 = Option.some []) = true then Option.some a else Option.none
    by_cases hy : y.2 = []
    · rw [full_yes (r := y.2) (a := y.1) e hy, k2 y.1 y.2 e, decide_eq_true (congrArg Option.some hy)]; rfl
    · rw [full_no (r := y.2) (a := y.1) e hy, decide_eq_false (fun q => hy (Option.some.inj q))]; rfl
set_option maxRecDepth 100000 in
set_option maxHeartbeats 8000000 in
/-- the reference's TakeWelcome -/
theorem rtakewelcome_ok (A : Option Addr) (n c : Nat) (l : List UInt8) (w : World) (h : Sl w A n c (bv l)) (hlen : Hid (l.length ≤ 1073741824)) :
    Calls Try.prog 43 #[.slice A n c] w (WmEnd (full rWelcome l) w) := by
  have hl : l.length = n := by have := h.len; rwa [bv_length] at this
  obtain ⟨g, hg⟩ : ∃ g, w.heap.size = g := ⟨_, rfl⟩
  obtain ⟨wa, hwa⟩ : ∃ wa, ((w.alloc (.cells zw 58)).alloc (.cells #[.slice A n c, .bool false] 101)).alloc (.cells zw 58) = wa := ⟨_, rfl⟩
  have hWS : WS 10 58 wf0 w g (g + 1) (g + 1 + 1) (some l) wf0 wa := by
    have hBa : Below w.heap.size w wa := by rw [← hwa]; exact nxa (nxa (nxa (Below.refl _ _) _) _) _
    have k0 : wa.heap[g]? = some (.cells zw 58) := by rw [← hwa, Below.heap_alloc _ _ _ (by simp; omega), Below.heap_alloc _ _ _ (by simp; omega), ← hg]; exact heap_alloc_new _ _
    have k1 : wa.heap[g + 1]? = some (.cells #[.slice A n c, .bool false] 101) := by
      have := heap_alloc_new (w.alloc (.cells zw 58)) (.cells #[.slice A n c, .bool false] 101)
      rw [← hwa, Below.heap_alloc _ _ _ (by simp; omega)]
      rwa [show (w.alloc (.cells zw 58)).heap.size = g + 1 by simp [hg]] at this
    have k2 : wa.heap[g + 1 + 1]? = some (.cells zw 58) := by
      have := heap_alloc_new ((w.alloc (.cells zw 58)).alloc (.cells #[.slice A n c, .bool false] 101)) (.cells zw 58)
      rw [← hwa]
      rwa [show ((w.alloc (.cells zw 58)).alloc (.cells #[.slice A n c, .bool false] 101)).heap.size = g + 1 + 1 by simp [hg]] at this
    have hsl : SlX (fun b => w.heap.size ≤ b) wa A n c (bv l) := by
      refine ⟨h.below hBa, ?_⟩
      rcases h.lies with e | ⟨ad, rfl, _⟩
      · exact .inl e
      · by_cases hx : bv l = []
        · exact .inl hx
        · have := h.lies.blk rfl hx
          exact .inr ⟨ad, rfl, by show ¬ _ ≤ _; omega⟩
    exact ⟨Bx.of k2 zw_f, Bx.of k0 zw_f, ⟨A, c, l, by rw [hl]; exact cell_of k1 0, frz_of k1 0, cell_of k1 1, frz_of k1 1, by rw [hl]; exact hsl, hlen.out, ⟨_, _, k1⟩, fun l' e => by injection e with e; exact e.symm⟩, KX.of hBa, by omega, by omega, by omega⟩
  have HW := Lib.hid hwa; have HS := Lib.hid hWS
  obtain ⟨p, hp⟩ : ∃ p, g + 1 = p := ⟨_, rfl⟩
  obtain ⟨z, hz⟩ : ∃ z, p + 1 = z := ⟨_, rfl⟩
  rw [hp, hz] at HS
  have HXP : Hid (w.heap.size ≤ p) := Lib.hid (by omega)
  clear hwa hWS h
  go_enter Try.func43, Try.ntmps43
  go_wp2_with fail
  rw [HW.out]
  have HC0 := Lib.hid (rfint_ok p _ (some l) wa HS.out.rf HXP.out)
  refine HC0.out.mono ?_
  rintro e v0 ⟨a0, v, q0, rfl, rfl, f3, f4, f5⟩
  have hR := Rd.snoc (Rd.zero (some l)) f3
  have hN := HS.out.call f5 f4
  have c0 := hN.bz.cell 0 (by omega)
  have z0 := hN.bz.fr 0
  have hN2 := hN.set (j := 0) (by omega) (.int .i64 a0)
  obtain ⟨t0, ht0⟩ : ∃ t0, v0.setCell ⟨z, 0, none⟩ (.int .i64 a0) = t0 := ⟨_, rfl⟩
  have HW0 := Lib.hid ht0
  rw [ht0] at hN2
  have HS0 := Lib.hid hN2; have HR0 := Lib.hid hR
  clear ht0 f3 f4 f5 hN hN2 hR
  go_wp2_with fail
  rw [HW0.out]
  clear c0 z0
  have HC1 := Lib.hid (rfint_ok p _ q0 t0 HS0.out.rf HXP.out)
  refine HC1.out.mono ?_
  rintro e v1 ⟨a1, v, q1, rfl, rfl, f3, f4, f5⟩
  have hR := Rd.snoc HR0.out f3
  have hN := HS0.out.call f5 f4
  have c1 := hN.bz.cell 1 (by omega)
  have z1 := hN.bz.fr 1
  have hN2 := hN.set (j := 1) (by omega) (.int .i64 a1)
  obtain ⟨t1, ht1⟩ : ∃ t1, v1.setCell ⟨z, 1, none⟩ (.int .i64 a1) = t1 := ⟨_, rfl⟩
  have HW1 := Lib.hid ht1
  rw [ht1] at hN2
  have HS1 := Lib.hid hN2; have HR1 := Lib.hid hR
  clear ht1 f3 f4 f5 hN hN2 hR
  go_wp2_with fail
  rw [HW1.out]
  clear c1 z1
  have HC2 := Lib.hid (rfint_ok p _ q1 t1 HS1.out.rf HXP.out)
  refine HC2.out.mono ?_
  rintro e v2 ⟨a2, v, q2, rfl, rfl, f3, f4, f5⟩
  have hR := Rd.snoc HR1.out f3
  have hN := HS1.out.call f5 f4
  have c2 := hN.bz.cell 2 (by omega)
  have z2 := hN.bz.fr 2
  have hN2 := hN.set (j := 2) (by omega) (.int .i64 a2)
  obtain ⟨t2, ht2⟩ : ∃ t2, v2.setCell ⟨z, 2, none⟩ (.int .i64 a2) = t2 := ⟨_, rfl⟩
  have HW2 := Lib.hid ht2
  rw [ht2] at hN2
  have HS2 := Lib.hid hN2; have HR2 := Lib.hid hR
  clear ht2 f3 f4 f5 hN hN2 hR
  go_wp2_with fail
  rw [HW2.out]
  clear c2 z2
  have HC3 := Lib.hid (rfint_ok p _ q2 t2 HS2.out.rf HXP.out)
  refine HC3.out.mono ?_
  rintro e v3 ⟨a3, v, q3, rfl, rfl, f3, f4, f5⟩
  have hR := Rd.snoc HR2.out f3
  have hN := HS2.out.call f5 f4
  have c3 := hN.bz.cell 3 (by omega)
  have z3 := hN.bz.fr 3
  have hN2 := hN.set (j := 3) (by omega) (.int .i64 a3)
  obtain ⟨t3, ht3⟩ : ∃ t3, v3.setCell ⟨z, 3, none⟩ (.int .i64 a3) = t3 := ⟨_, rfl⟩
  have HW3 := Lib.hid ht3
  rw [ht3] at hN2
  have HS3 := Lib.hid hN2; have HR3 := Lib.hid hR
  clear ht3 f3 f4 f5 hN hN2 hR
  go_wp2_with fail
  rw [HW3.out]
  clear c3 z3
  have HC4 := Lib.hid (rftree_ok p _ q3 t3 HS3.out.rf HXP.out)
  refine HC4.out.mono ?_
  rintro e v4 ⟨t, v, q4, rfl, hT, f3, f4, f5⟩
  obtain ⟨BT, dT, rfl⟩ := hT.form
  have hR := f3
  have hN := HS3.out.call f5 f4
  have c4 := hN.bz.cell 4 (by omega)
  have z4 := hN.bz.fr 4
  have hN2 := hN.set (j := 4) (by omega) (.slice BT t.length dT)
  have hT2 := hT.set (q := ⟨z, 4, none⟩) hN.bz.ty (by decide) (by decide) (.slice BT t.length dT)
  obtain ⟨t4, ht4⟩ : ∃ t4, v4.setCell ⟨z, 4, none⟩ (.slice BT t.length dT) = t4 := ⟨_, rfl⟩
  have HW4 := Lib.hid ht4
  rw [ht4] at hN2
  rw [ht4] at hT2
  have HT4 := Lib.hid hT2
  have HS4 := Lib.hid hN2; have HR4 := Lib.hid hR
  clear ht4 f3 f4 f5 hN hN2 hR hT hT2
  go_wp2_with fail
  rw [HW4.out]
  clear c4 z4
  have HC5 := Lib.hid (rfint_ok p _ q4 t4 HS4.out.rf HXP.out)
  refine HC5.out.mono ?_
  rintro e v5 ⟨a5, v, q5, rfl, rfl, f3, f4, f5⟩
  have hR := Rd.snoc (Rd.zero q4) f3
  have hT := TV.kx HT4.out f5 (fun b e => by subst e; exact ⟨101, by decide, by decide, HS4.out.rf.isT⟩)
  have hN := HS4.out.call f5 f4
  have c5 := hN.bz.cell 5 (by omega)
  have z5 := hN.bz.fr 5
  have hN2 := hN.set (j := 5) (by omega) (.int .i64 a5)
  have hT2 := hT.set (q := ⟨z, 5, none⟩) hN.bz.ty (by decide) (by decide) (.int .i64 a5)
  obtain ⟨t5, ht5⟩ : ∃ t5, v5.setCell ⟨z, 5, none⟩ (.int .i64 a5) = t5 := ⟨_, rfl⟩
  have HW5 := Lib.hid ht5
  rw [ht5] at hN2
  rw [ht5] at hT2
  have HT5 := Lib.hid hT2
  have HS5 := Lib.hid hN2; have HR5 := Lib.hid hR
  clear ht5 f3 f4 f5 hN hN2 hR hT hT2
  go_wp2_with fail
  rw [HW5.out]
  clear c5 z5
  have HC6 := Lib.hid (rfint_ok p _ q5 t5 HS5.out.rf HXP.out)
  refine HC6.out.mono ?_
  rintro e v6 ⟨a6, v, q6, rfl, rfl, f3, f4, f5⟩
  have hR := Rd.snoc HR5.out f3
  have hT := TV.kx HT5.out f5 (fun b e => by subst e; exact ⟨101, by decide, by decide, HS5.out.rf.isT⟩)
  have hN := HS5.out.call f5 f4
  have c6 := hN.bz.cell 6 (by omega)
  have z6 := hN.bz.fr 6
  have hN2 := hN.set (j := 6) (by omega) (.int .i64 a6)
  have hT2 := hT.set (q := ⟨z, 6, none⟩) hN.bz.ty (by decide) (by decide) (.int .i64 a6)
  obtain ⟨t6, ht6⟩ : ∃ t6, v6.setCell ⟨z, 6, none⟩ (.int .i64 a6) = t6 := ⟨_, rfl⟩
  have HW6 := Lib.hid ht6
  rw [ht6] at hN2
  rw [ht6] at hT2
  have HT6 := Lib.hid hT2
  have HS6 := Lib.hid hN2; have HR6 := Lib.hid hR
  clear ht6 f3 f4 f5 hN hN2 hR hT hT2
  go_wp2_with fail
  rw [HW6.out]
  clear c6 z6
  have HC7 := Lib.hid (rfint_ok p _ q6 t6 HS6.out.rf HXP.out)
  refine HC7.out.mono ?_
  rintro e v7 ⟨a7, v, q7, rfl, rfl, f3, f4, f5⟩
  have hR := Rd.snoc HR6.out f3
  have hT := TV.kx HT6.out f5 (fun b e => by subst e; exact ⟨101, by decide, by decide, HS6.out.rf.isT⟩)
  have hN := HS6.out.call f5 f4
  have c7 := hN.bz.cell 7 (by omega)
  have z7 := hN.bz.fr 7
  have hN2 := hN.set (j := 7) (by omega) (.int .i64 a7)
  have hT2 := hT.set (q := ⟨z, 7, none⟩) hN.bz.ty (by decide) (by decide) (.int .i64 a7)
  obtain ⟨t7, ht7⟩ : ∃ t7, v7.setCell ⟨z, 7, none⟩ (.int .i64 a7) = t7 := ⟨_, rfl⟩
  have HW7 := Lib.hid ht7
  rw [ht7] at hN2
  rw [ht7] at hT2
  have HT7 := Lib.hid hT2
  have HS7 := Lib.hid hN2; have HR7 := Lib.hid hR
  clear ht7 f3 f4 f5 hN hN2 hR hT hT2
  go_wp2_with fail
  rw [HW7.out]
  clear c7 z7
  have HC8 := Lib.hid (rfint_ok p _ q7 t7 HS7.out.rf HXP.out)
  refine HC8.out.mono ?_
  rintro e v8 ⟨a8, v, q8, rfl, rfl, f3, f4, f5⟩
  have hR := Rd.snoc HR7.out f3
  have hT := TV.kx HT7.out f5 (fun b e => by subst e; exact ⟨101, by decide, by decide, HS7.out.rf.isT⟩)
  have hN := HS7.out.call f5 f4
  have c8 := hN.bz.cell 8 (by omega)
  have z8 := hN.bz.fr 8
  have hN2 := hN.set (j := 8) (by omega) (.int .i64 a8)
  have hT2 := hT.set (q := ⟨z, 8, none⟩) hN.bz.ty (by decide) (by decide) (.int .i64 a8)
  obtain ⟨t8, ht8⟩ : ∃ t8, v8.setCell ⟨z, 8, none⟩ (.int .i64 a8) = t8 := ⟨_, rfl⟩
  have HW8 := Lib.hid ht8
  rw [ht8] at hN2
  rw [ht8] at hT2
  have HT8 := Lib.hid hT2
  have HS8 := Lib.hid hN2; have HR8 := Lib.hid hR
  clear ht8 f3 f4 f5 hN hN2 hR hT hT2
  go_wp2_with fail
  rw [HW8.out]
  clear c8 z8
  have HC9 := Lib.hid (rfint_ok p _ q8 t8 HS8.out.rf HXP.out)
  refine HC9.out.mono ?_
  rintro e v9 ⟨a9, v, q9, rfl, rfl, f3, f4, f5⟩
  have hR := Rd.snoc HR8.out f3
  have hT := TV.kx HT8.out f5 (fun b e => by subst e; exact ⟨101, by decide, by decide, HS8.out.rf.isT⟩)
  have hN := HS8.out.call f5 f4
  have c9 := hN.bz.cell 9 (by omega)
  have z9 := hN.bz.fr 9
  have hN2 := hN.set (j := 9) (by omega) (.int .i64 a9)
  have hT2 := hT.set (q := ⟨z, 9, none⟩) hN.bz.ty (by decide) (by decide) (.int .i64 a9)
  obtain ⟨t9, ht9⟩ : ∃ t9, v9.setCell ⟨z, 9, none⟩ (.int .i64 a9) = t9 := ⟨_, rfl⟩
  have HW9 := Lib.hid ht9
  rw [ht9] at hN2
  rw [ht9] at hT2
  have HT9 := Lib.hid hT2
  have HS9 := Lib.hid hN2; have HR9 := Lib.hid hR
  clear ht9 f3 f4 f5 hN hN2 hR hT hT2
  go_wp2_with fail
  rw [HW9.out]
  have HD := Lib.hid (rfdone_ok p _ q9 t9 HS9.out.rf)
  have HO := Lib.hid (out_welcome HR3.out HR4.out HR9.out)
  have HF := Lib.hid (Out.full HO.out)
  obtain ⟨x, hx⟩ : ∃ x, wmOf ([] ++ [a0] ++ [a1] ++ [a2] ++ [a3]) t ([] ++ [a5] ++ [a6] ++ [a7] ++ [a8] ++ [a9]) = x := ⟨_, rfl⟩
  have hxt : x.tree = t := by rw [← hx]; rfl
  have hx9 : Bx t9 z 10 (wf x (.slice BT x.tree.length dT)) 58 := by
    refine ⟨fun j hj => (HS9.out.bz.cell j hj).trans ?_, HS9.out.bz.fr, HS9.out.bz.ty, HS9.out.bz.bit⟩
    rw [← hx]
    match j, hj with
    | 0, _ => rfl | 1, _ => rfl | 2, _ => rfl | 3, _ => rfl | 4, _ => rfl | 5, _ => rfl | 6, _ => rfl | 7, _ => rfl | 8, _ => rfl | 9, _ => rfl
    | j + 10, h => exact absurd h (by omega)
  rw [hx] at HF
  have HX9 := Lib.hid hx9; have HXT := Lib.hid hxt
  clear hx hx9 hxt c9 z9
  have hg2 := HS9.out.bg
  obtain ⟨d, hd⟩ : ∃ d, doneO q9 = d := ⟨_, rfl⟩
  rw [hd] at HD HF
  clear hd
  cases d
  · have HL := Lib.hid (hg2.sets (g := wf0) zw.toList rfl (fun j hj => by have := zw_f j hj; simpa using this))
    have HFIN := Lib.hid (HS9.out.lays zw.toList)
    have u0 := hg2.cell 0 (by omega); have u1 := hg2.cell 1 (by omega); have u2 := hg2.cell 2 (by omega); have u3 := hg2.cell 3 (by omega); have u4 := hg2.cell 4 (by omega); have u5 := hg2.cell 5 (by omega); have u6 := hg2.cell 6 (by omega); have u7 := hg2.cell 7 (by omega); have u8 := hg2.cell 8 (by omega); have u9 := hg2.cell 9 (by omega)
    have x0 := hg2.fr 0; have x1 := hg2.fr 1; have x2 := hg2.fr 2; have x3 := hg2.fr 3; have x4 := hg2.fr 4; have x5 := hg2.fr 5; have x6 := hg2.fr 6; have x7 := hg2.fr 7; have x8 := hg2.fr 8; have x9 := hg2.fr 9
    clear hg2
    go_wp2_with (go_at_call 69; refine HD.out.mono ?_; rintro e w9 ⟨rfl, rfl⟩)
    refine (show bodyPost Try.prog Try.f43 (WmEnd (full rWelcome l) w) Exit.ret _ (t9.setCells g 0 zw.toList) from ?_)
    have l0 := HL.out.cell 0 (by omega); have l1 := HL.out.cell 1 (by omega); have l2 := HL.out.cell 2 (by omega); have l3 := HL.out.cell 3 (by omega); have l4 := HL.out.cell 4 (by omega); have l5 := HL.out.cell 5 (by omega); have l6 := HL.out.cell 6 (by omega); have l7 := HL.out.cell 7 (by omega); have l8 := HL.out.cell 8 (by omega); have l9 := HL.out.cell 9 (by omega)
    simp only [wf0, wf] at l0 l1 l2 l3 l4 l5 l6 l7 l8 l9
    generalize t9.setCells g 0 zw.toList = w9 at *
    simp [bodyPost, results, Try.results43, go_sem, l0, l1, l2, l3, l4, l5, l6, l7, l8, l9]
    exact ⟨.inr ⟨HF.out, rfl⟩, HFIN.out⟩
  · have HL := Lib.hid (hg2.sets (wc x BT x.tree.length dT).toList rfl (wc_f x BT x.tree.length dT))
    have HFIN := Lib.hid (HS9.out.lays (wc x BT x.tree.length dT).toList)
    have hT9 := TV.kx HT9.out (KX.lays t9 g (wc x BT x.tree.length dT).toList) (fun b e => ⟨58, by decide, by decide, by subst e; exact hg2.ty⟩)
    have HT99 := Lib.hid hT9
    have c0 := HX9.out.cell 0 (by omega); have c1 := HX9.out.cell 1 (by omega); have c2 := HX9.out.cell 2 (by omega); have c3 := HX9.out.cell 3 (by omega); have c4 := HX9.out.cell 4 (by omega); have c5 := HX9.out.cell 5 (by omega); have c6 := HX9.out.cell 6 (by omega); have c7 := HX9.out.cell 7 (by omega); have c8 := HX9.out.cell 8 (by omega); have c9 := HX9.out.cell 9 (by omega)
    simp only [wf] at c0 c1 c2 c3 c4 c5 c6 c7 c8 c9
    have u0 := hg2.cell 0 (by omega); have u1 := hg2.cell 1 (by omega); have u2 := hg2.cell 2 (by omega); have u3 := hg2.cell 3 (by omega); have u4 := hg2.cell 4 (by omega); have u5 := hg2.cell 5 (by omega); have u6 := hg2.cell 6 (by omega); have u7 := hg2.cell 7 (by omega); have u8 := hg2.cell 8 (by omega); have u9 := hg2.cell 9 (by omega)
    have x0 := hg2.fr 0; have x1 := hg2.fr 1; have x2 := hg2.fr 2; have x3 := hg2.fr 3; have x4 := hg2.fr 4; have x5 := hg2.fr 5; have x6 := hg2.fr 6; have x7 := hg2.fr 7; have x8 := hg2.fr 8; have x9 := hg2.fr 9
    clear hg2 hT9
    go_wp2_with (go_at_call 69; refine HD.out.mono ?_; rintro e w9 ⟨rfl, rfl⟩)
    refine (show bodyPost Try.prog Try.f43 (WmEnd (full rWelcome l) w) Exit.ret _ (t9.setCells g 0 (wc x BT x.tree.length dT).toList) from ?_)
    have l0 := HL.out.cell 0 (by omega); have l1 := HL.out.cell 1 (by omega); have l2 := HL.out.cell 2 (by omega); have l3 := HL.out.cell 3 (by omega); have l4 := HL.out.cell 4 (by omega); have l5 := HL.out.cell 5 (by omega); have l6 := HL.out.cell 6 (by omega); have l7 := HL.out.cell 7 (by omega); have l8 := HL.out.cell 8 (by omega); have l9 := HL.out.cell 9 (by omega)
    simp only [wf] at l0 l1 l2 l3 l4 l5 l6 l7 l8 l9
    generalize t9.setCells g 0 (wc x BT x.tree.length dT).toList = w9 at *
    simp [bodyPost, results, Try.results43, go_sem, l0, l1, l2, l3, l4, l5, l6, l7, l8, l9]
    have hts := HT99.out.ts
    rw [← HXT.out] at hts
    exact ⟨.inl ⟨x, BT, dT, HF.out, rfl, hts⟩, HFIN.out⟩
end Go.Proofs.Ytjebmmmjjiomfaa

