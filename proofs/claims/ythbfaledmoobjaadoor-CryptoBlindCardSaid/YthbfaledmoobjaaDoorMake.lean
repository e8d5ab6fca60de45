/- The walk of Make. -/
import Derived.Test.YthbfaledmoobjaaDoorPush
import Derived.Test.YthbfaledmoobjaaDoorKey
import Derived.Test.YthbfaledmoobjaaDoorMay
import Derived.Test.YthbfaledmoobjaaDoorNode
import Derived.Deep.RegionLaw
namespace Go.Proofs.YthbfaledmoobjaaDoor
open Go.RowKit

theorem step_app {P : Program} {w : World} {ops : Array Oper} {o : Oper} {a : Act} {K : Act → World → Prop} {Q : Exit → Act → World → Prop} {X : Prop} {s x : Operand} {t : TypeId}
    {base : Nat} {e : TypeId} {z : Value} {size bytes : Nat} (E : Elem P t e z size bytes) (hg : o.guard = none)
    (ho : o.op = .call { callee := .builtin .append, args := #[s, x], argTypes := #[t, t] })
    {A0 : Option Addr} {n c0 : Nat} {xs : List Value} (hs : a.eval s = .slice A0 n c0) (hown : Ow w base e size A0 n c0 xs)
    {A : Option Addr} {m c : Nat} {news : List Value} (hx : a.eval x = .slice A m c) (hl : Lies w A news) (hm : news.length = m * size) (h1 : ∀ u ∈ news, u.oneCell' = true)
    (h63 : n + m ≤ maxLen) (hbytes : (n + m) * bytes ≤ 140737488355328) (hbase : base ≤ w.heap.size)
    (h : ∀ A' c' w', Ow w' base e size A' (n + m) c' (xs ++ news) → w.grownBy w' (Value.slice A0 n c0).ownBlock → Below base w w' → K (a.put o.dst (.slice A' (n + m) c')) w') :
    if Region.wanted o (yielded ops a.tmps) = true then Oper.wp P o a w K Q else X := by
  have hw : Region.wanted o (yielded ops a.tmps) = true := by simp [Region.wanted, hg]
  rw [if_pos hw]
  exact wp_app E ho hs hown hx hl hm h1 h63 hbytes hbase h
/-- what Make does to an arena's nodes -/
def Mk (ns : List NN) (x : NN) (t er : Int) (ns' : List NN) : Prop :=
  (¬ May ns x ∧ t = 0 ∧ er = 1 ∧ ns' = ns) ∨ (May ns x ∧ 0 ≤ t ∧ ns[t.toNat]? = some x ∧ er = 0 ∧ ns' = ns) ∨
  (May ns x ∧ x ∉ ns ∧ 100000 ≤ ns.length ∧ t = 0 ∧ er = 2 ∧ ns' = ns) ∨ (May ns x ∧ x ∉ ns ∧ ns.length < 100000 ∧ t = (ns.length : Int) ∧ er = 0 ∧ ns' = ns ++ [x])
def MkP (base b : Nat) (ns : List NN) (x : NN) (w : World) (e : Ending) (w' : World) : Prop :=
  ∃ t er ns', e = .returned (.tuple #[.int .i64 t, .int .i64 er]) ∧ AR w' base b ns' ∧ Af base w w' ∧ Mk ns x t er ns'
theorem key_size (x : NN) (hx : W64 x.op) (hl : ∀ v ∈ x.n :: x.l, W64 v) (h64 : x.l.length ≤ 64) (hs : x.s.size ≤ 200) : (⟨(keyL x).toArray⟩ : ByteArray).size ≤ maxLen := by
  have := kp_len x hx hl (x.l.length + 1)
  have e := kp_all x
  have e2 : (⟨(keyL x).toArray⟩ : ByteArray).size = (keyL x).length := List.size_toArray
  have e3 : x.s.data.toList.length = x.s.size := by rw [Array.length_toList]; rfl
  rw [e2, ← e, List.length_append, List.length_cons, e3]
  unfold maxLen; omega
set_option maxRecDepth 100000 in
set_option maxHeartbeats 8000000 in
theorem make_ok (base b : Nat) (ns : List NN) (x : NN) (A : Option Addr) (m d : Nat) (w : World) (h : AR w base b ns) (hl : Sl w A m d (iv x.l)) (hw : W64 x.op ∧ W64 x.n ∧ ∀ v ∈ x.l, W64 v) (hT : Tb base w) :
    Calls Tryd.prog 32 #[.pointer (some ⟨b, 0, none⟩), .agg #[.int .i64 x.op, .int .i64 x.n, .string x.s, .slice A m d]] w (MkP base b ns x w) := by
  have HM : Hid (x.l.length = m) := Lib.hid (by have := hl.len; rwa [iv_length] at this)
  have hbw : base ≤ w.heap.size := by
    have hb := h.bit
    obtain ⟨_, _, _, _, _, _, h1, _⟩ := h
    omega
  have HW64 := Lib.hid hw
  have HMAY := Lib.hid (may_ok base b ns x A m d _ (h.alloc (.cells #[.int .i64 x.op, .int .i64 x.n, .string x.s, .slice A m d] 56)) (hl.alloc _))
  obtain ⟨p, hp⟩ : ∃ p, w.heap.size = p := ⟨_, rfl⟩
  have HP := Lib.hid hp
  obtain ⟨W1, hW1⟩ : ∃ W1, w.alloc (.cells #[.int .i64 x.op, .int .i64 x.n, .string x.s, .slice A m d] 56) = W1 := ⟨_, rfl⟩
  have HW1 := Lib.hid hW1
  have k1 : W1.heap[p]? = some (.cells #[.int .i64 x.op, .int .i64 x.n, .string x.s, .slice A m d] 56 (0, 0)) := by rw [← hW1, ← hp]; exact heap_alloc_new _ _
  have hB1 : Below p w W1 := by rw [← hW1, ← hp]; exact (Below.refl _ w).alloc (Nat.le_refl _) _
  have hsz1 : W1.heap.size = p + 1 := by rw [← hW1, ← hp]; simp
  rw [hW1] at HMAY
  have HAR : Hid (AR w base b ns) := Lib.hid h
  have HSL : Hid (Sl w A m d (iv x.l)) := Lib.hid hl
  have HT : Hid (Tb base w) := Lib.hid hT
  rw [hp] at hbw
  clear h hl hw hT hW1 hp
  go_enter Tryd.func32, Tryd.ntmps32
  go_wp2_with (go_at_call 38; rw [HW1.out]; refine HMAY.out.mono ?_; rintro e w2 ⟨ok, rfl, hok, hB2⟩; refine Hid.out ?_)
  refine Lib.hid ?_
  rw [HP.out]
  have hBp : Below p w w2 := hB1.trans (hB2.mono (by omega))
  have k2 : w2.heap[p]? = some (.cells #[.int .i64 x.op, .int .i64 x.n, .string x.s, .slice A m d] 56 (0, 0)) := (hB2.block p (by omega)).trans k1
  have hsz2 : p + 1 ≤ w2.heap.size := by have := hB2.size; omega
  have HOK := Lib.hid hok
  have HBP := Lib.hid hBp
  have HK2 := Lib.hid k2
  clear hB2 k1 hB1 hok hBp k2
  cases ok
  · go_wp2_with fail
    go_ret2
    exact ⟨0, 1, ns, rfl, (HAR.out).below (by rw [HP.out]; exact HBP.out), ⟨(HBP.out).mono hbw, fun k _ hk _ => by rw [HBP.out.block k (by have := (Array.getElem?_eq_some_iff.1 hk).1; rw [HP.out] at this; exact this)]; exact hk⟩, .inl ⟨by rw [← HOK.out]; simp, rfl, rfl, rfl⟩⟩
  · have hmay : May ns x := HOK.out.1 rfl
    have HMY := Lib.hid hmay
    have c0 : w2.cell? ⟨p, 0, none⟩ = some (.int .i64 x.op) := cell_of HK2.out 0
    have c1 : w2.cell? ⟨p, 1, none⟩ = some (.int .i64 x.n) := cell_of HK2.out 1
    have c2 : w2.cell? ⟨p, 2, none⟩ = some (.string x.s) := cell_of HK2.out 2
    have c3 : w2.cell? ⟨p, 3, none⟩ = some (.slice A m d) := cell_of HK2.out 3
    have HKEY := Lib.hid (key_ok x A m d w2 ((HSL.out).below (by rw [HP.out]; exact HBP.out)) (by rw [← HM.out]; exact hmay.few) hmay.short HW64.out ((HT.out.on ((HBP.out).mono hbw)).mono (by omega)))
    clear hmay
    go_wp2_with (go_at_call 39; go_must (refine HKEY.out.mono ?_); rintro e w3 ⟨rfl, hB3⟩; refine Hid.out ?_)
    refine Lib.hid ?_
    have hBp3 : Below p w w3 := HBP.out.trans (hB3.mono (by omega))
    have k3 : w3.heap[p]? = some (.cells #[.int .i64 x.op, .int .i64 x.n, .string x.s, .slice A m d] 56 (0, 0)) := (hB3.block p (by omega)).trans HK2.out
    have hl3 : Sl w3 A m d (iv x.l) := (HSL.out).below (by rw [HP.out]; exact hBp3)
    have hsz3 : p + 1 ≤ w3.heap.size := by have := hB3.size; omega
    obtain ⟨A0, n0, M, k, xs, F, g1, g2, g3, g4, g5, g6, g7, g8⟩ := HAR.out
    have hbp : b < p := by rw [← HP.out]; exact (Array.getElem?_eq_some_iff.1 g2).1
    have hMp : M < p := by rw [← HP.out]; exact g5.lt
    have g2' : w3.heap[b]? = some (.cells #[.slice A0 ns.length n0, .map (some M)] 53) := (hBp3.block b hbp).trans g2
    have hlook := (g5.block (hBp3.block M hMp)).look (key_size x HW64.out.1 (fun v hv => by rcases List.mem_cons.1 hv with rfl | hv; exact HW64.out.2.1; exact HW64.out.2.2 v hv) HMY.out.few HMY.out.short)
    have f0 : w3.cell? ⟨b, 0, none⟩ = some (.slice A0 ns.length n0) := cell_of g2' 0
    have f1 : w3.cell? ⟨b, 1, none⟩ = some (.map (some M)) := cell_of g2' 1
    obtain ⟨v, hv⟩ : ∃ v, F (keyL x) = v := ⟨_, rfl⟩
    have HV := Lib.hid hv
    simp only at hlook
    rw [hv] at hlook
    have HBP3 := Lib.hid hBp3
    have HK3 := Lib.hid k3
    have HL3 := Lib.hid hl3
    have HG2 := Lib.hid g2
    have HG3 := Lib.hid g3
    have HG5 := Lib.hid g5
    have HG7 := Lib.hid g7
    have HG8 := Lib.hid g8
    clear hB3 c0 c1 c2 c3 hv hBp3 k3 hl3 g2 g2' g3 g5 g7 g8
    cases v with
    | some i =>
      go_wp2_with fail
      go_ret2
      have hi := (HG8.out).found HV.out
      exact ⟨i, 0, ns, rfl, (HAR.out).below (by rw [HP.out]; exact HBP3.out), ⟨(HBP3.out).mono hbw, fun k _ hk _ => by rw [HBP3.out.block k (by have := (Array.getElem?_eq_some_iff.1 hk).1; rw [HP.out] at this; exact this)]; exact hk⟩, .inr (.inl ⟨HMY.out, hi.1, hi.2, rfl, rfl⟩)⟩
    | none =>
      by_cases hlong : 100000 ≤ ns.length
      · have t1 : decide ((100000 : Int) ≤ (ns.length : Int)) = true := decide_eq_true (by omega)
        have t1' : decide (100000 ≤ ns.length) = true := decide_eq_true hlong
        have HLG := Lib.hid hlong
        clear hlong
        go_wp2_with fail
        go_ret2
        exact ⟨0, 2, ns, rfl, (HAR.out).below (by rw [HP.out]; exact HBP3.out), ⟨(HBP3.out).mono hbw, fun k _ hk _ => by rw [HBP3.out.block k (by have := (Array.getElem?_eq_some_iff.1 hk).1; rw [HP.out] at this; exact this)]; exact hk⟩, .inr (.inr (.inl ⟨HMY.out, HG8.out.absent HV.out, HLG.out, rfl, rfl, rfl⟩))⟩
      have t1 : decide ((100000 : Int) ≤ (ns.length : Int)) = false := decide_eq_false (by omega)
      have t1' : decide (100000 ≤ ns.length) = false := decide_eq_false hlong
      have HLG := Lib.hid hlong
      have q3 : w3.cell? ⟨p, 3, none⟩ = some (.slice A m d) := cell_of HK3.out 3
      have HCL := Lib.hid (clone_ok A m d x.l w3 HL3.out (by have := HMY.out.few; rw [HM.out] at this; omega))
      go_wp2_with (go_at_call 40; refine HCL.out.mono ?_; rintro e w4 ⟨CA, cc, rfl, hO4, hB4⟩; refine Hid.out ?_)
      refine Lib.hid ?_
      have k4 : w4.heap[p]? = some (.cells #[.int .i64 x.op, .int .i64 x.n, .string x.s, .slice A m d] 56 (0, 0)) := (hB4.block p (by omega)).trans HK3.out
      have y3 := frz_of k4 3
      have z0 : w4.cell? ⟨p, 0, none⟩ = some (.int .i64 x.op) := cell_of k4 0
      have z1 : w4.cell? ⟨p, 1, none⟩ = some (.int .i64 x.n) := cell_of k4 1
      have z2 : w4.cell? ⟨p, 2, none⟩ = some (.string x.s) := cell_of k4 2
      have z3 : w4.cell? ⟨p, 3, none⟩ = some (.slice A m d) := cell_of k4 3
      obtain ⟨w5, hw5⟩ : ∃ w5, w4.setCell ⟨p, 3, none⟩ (.slice CA m cc) = w5 := ⟨_, rfl⟩
      have HW5 := Lib.hid hw5
      have hB5 : Below p w w5 := by rw [← hw5]; exact (HBP3.out.trans (hB4.mono (by omega))).setCell (Nat.le_refl _) _
      have hBw : Below w.heap.size w w5 := by rw [HP.out]; exact hB5
      have k5 : w5.heap[p]? = some (.cells #[.int .i64 x.op, .int .i64 x.n, .string x.s, .slice CA m cc] 56 (0, 0)) := by rw [← hw5]; exact heap_setCell_same _ _ 3 _ _ _ k4
      have hC5 : Ow w5 w3.heap.size 3 1 CA m cc (iv x.l) := by rw [← hw5]; exact ownsRow_setCell_below hO4 (by show p < w3.heap.size; omega) _
      have e2 : w5.heap[b]? = some (.cells #[.slice A0 ns.length n0, .map (some M)] 53) := (hB5.block b hbp).trans HG2.out
      have e3 := (HG3.out).below hBw
      have e5 := (HG5.out).block (hB5.block M hMp)
      have e7 := (HG7.out).below hBw
      have hb5 : base ≤ w5.heap.size := by have := hB5.size; rw [HP.out] at this; omega
      have q0 : w5.cell? ⟨p, 0, none⟩ = some (.int .i64 x.op) := cell_of k5 0
      have q1 : w5.cell? ⟨p, 1, none⟩ = some (.int .i64 x.n) := cell_of k5 1
      have q2 : w5.cell? ⟨p, 2, none⟩ = some (.string x.s) := cell_of k5 2
      have q3 : w5.cell? ⟨p, 3, none⟩ = some (.slice CA m cc) := cell_of k5 3
      have f0 : w5.cell? ⟨b, 0, none⟩ = some (.slice A0 ns.length n0) := cell_of e2 0
      have e2a : (w5.drew.alloc (.cells #[.int .i64 x.op, .int .i64 x.n, .string x.s, .slice CA m cc] 56)).heap[b]? = some (.cells #[.slice A0 ns.length n0, .map (some M)] 53) := by
        rw [Below.heap_alloc _ _ _ (by exact (Array.getElem?_eq_some_iff.1 e2).1)]; exact e2
      have f0a : (w5.drew.alloc (.cells #[.int .i64 x.op, .int .i64 x.n, .string x.s, .slice CA m cc] 56)).cell? ⟨b, 0, none⟩ = some (.slice A0 ns.length n0) := cell_of e2a 0
      have HE2 := Lib.hid e2; have HE2A := Lib.hid e2a; have HE3 := Lib.hid e3; have HE5 := Lib.hid e5; have HE7 := Lib.hid e7; have HB5 := Lib.hid hBw; have HC5 := Lib.hid hC5
      have hgrow : ∀ w6, (w5.drew.alloc (.cells #[.int .i64 x.op, .int .i64 x.n, .string x.s, .slice CA m cc] 56)).grownBy w6 (Value.slice A0 ns.length n0).ownBlock → w6.heap[b]? = some (.cells #[.slice A0 ns.length n0, .map (some M)] 53) := by
        intro w6 hG
        rw [hG.block b (by have := (Array.getElem?_eq_some_iff.1 e2a).1; exact this) (fun e => by
          rcases e3.2 with ⟨hv, _⟩ | ⟨g, cap, cur, hv, _, hh, _⟩
          · rw [hv] at e; cases e
          · rw [hv] at e; injection e with e; have e' : b = g := e; rw [← e', e2] at hh; injection hh with hh; injection hh with _ hh; cases hh)]
        exact e2a
      have k5a : (w5.drew.alloc (.cells #[.int .i64 x.op, .int .i64 x.n, .string x.s, .slice CA m cc] 56)).heap[p]? = some (.cells #[.int .i64 x.op, .int .i64 x.n, .string x.s, .slice CA m cc] 56 (0, 0)) := by
        rw [Below.heap_alloc _ _ _ (by exact (Array.getElem?_eq_some_iff.1 k5).1)]; exact k5
      have hgrowp : ∀ w6, (w5.drew.alloc (.cells #[.int .i64 x.op, .int .i64 x.n, .string x.s, .slice CA m cc] 56)).grownBy w6 (Value.slice A0 ns.length n0).ownBlock → w6.heap[p]? = some (.cells #[.int .i64 x.op, .int .i64 x.n, .string x.s, .slice CA m cc] 56 (0, 0)) := by
        intro w6 hG
        rw [hG.block p (by have := (Array.getElem?_eq_some_iff.1 k5a).1; exact this) (fun e => by
          have := (World.ownsRow.lt HG3.out p e.symm).2
          rw [HP.out] at this; omega)]
        exact k5a
      have f0b : (w5.alloc (.cells #[.int .i64 x.op, .int .i64 x.n, .string x.s, .slice CA m cc] 56)).cell? ⟨b, 0, none⟩ = some (.slice A0 ns.length n0) := f0a
      have HGRP := Lib.hid hgrowp
      have HGR := Lib.hid hgrow
      have HK5A := Lib.hid k5a
      clear hO4 hB4 k4 hlook hw5 hB5 hBw k5 hC5 e2 e2a e5 e7 hgrow hgrowp k5a
      go_wp2_with fail
      rw [HW5.out]
      clear z0 z1 z2 z3 y3
      go_region_law ((refine step_app (s := .tmp 42) (x := .tmp 44) (base := base) (t := 50) (n := ns.length) (m := 1) (c := 1) (news := [.int .i64 x.op, .int .i64 x.n, .string x.s, .slice CA m cc]) E50 rfl rfl (by with_unfolding_all rfl) (e3.drew.alloc _) (by with_unfolding_all rfl) (lies_cells w5.drew #[.int .i64 x.op, .int .i64 x.n, .string x.s, .slice CA m cc] 56) rfl (by simp [Value.oneCell']) (by unfold maxLen; omega) (by omega) (by simp; omega) ?_; intro A6 c6 w6 hO6 hG6 hB6; have e6 := HGR.out w6 hG6; have f6 : w6.cell? ⟨b, 0, none⟩ = some (.slice A0 ns.length n0) := cell_of e6 0; have f61 : w6.cell? ⟨b, 1, none⟩ = some (.map (some M)) := cell_of e6 1; have z6 := frz_of e6 0))
      all_goals
        have hms := (HE5.out).block (w' := w6.setCell ⟨b, 0, none⟩ (.slice A6 (ns.length + 1) c6)) (by
          have hbM : M ≠ b := fun e => by
            obtain ⟨es, clock, hh⟩ := (HE5.out).isMap
            rw [e, HE2.out] at hh; cases hh
          have hMr : some M ≠ (Value.slice A0 ns.length n0).ownBlock := fun e => by
            rcases (e3).2 with ⟨hv, _⟩ | ⟨g, cap, cur, hv, _, hh, _⟩
            · rw [hv] at e; cases e
            · rw [hv] at e; injection e with e
              have e' : M = g := e
              obtain ⟨es, clock, h2⟩ := (HE5.out).isMap
              rw [e', hh] at h2; cases h2
          have hMl := (HE5.out).lt
          rw [heap_setCell_other _ _ _ _ hbM, hG6.block M (by show M < (w5.drew.alloc _).heap.size; simp; omega) hMr]
          exact Below.heap_alloc w5.drew _ M hMl)
        obtain ⟨w8, hrun, hM8, ht8⟩ := hms.put (by unfold maxLen; omega) (key_size x HW64.out.1 (fun v hv => by rcases List.mem_cons.1 hv with rfl | hv; exact HW64.out.2.1; exact HW64.out.2.2 v hv) HMY.out.few HMY.out.short) (z := (ns.length : Int)) (by simp [Lit.wf, IntKind.min, IntKind.max, IntKind.signed, IntKind.bits]; omega)
        have HM8 := Lib.hid hM8
        have HT8 := Lib.hid ht8
        have HG6 := Lib.hid hG6
        have HO6 := Lib.hid hO6
        clear hms hM8 ht8 hG6 hO6 hB6 f0 f0a f0b q0 q1 q2 q3 e3 e6 z6 f6
        go_simp
        go_wp2_with fail
        go_ret2
        have hgg := (World.grownBy_alloc w5.drew (.cells #[.int .i64 x.op, .int .i64 x.n, .string x.s, .slice CA m cc] 56) (Value.slice A0 ns.length n0).ownBlock).trans HG6.out
        obtain ⟨hR, hAf⟩ := AR.push g1 HE2.out HE3.out g4 HE5.out g6 HE7.out HG8.out HO6.out ⟨hgg.os, hgg.tape, hgg.output, hgg.size, hgg.block⟩ HC5.out.sl ⟨ow_nums HC5.out, .inr (fun a ha => by
          have := (World.ownsRow.lt HC5.out a.block (by rw [ha]; rfl)).1
          omega)⟩ HM8.out HT8.out HMY.out HW64.out HV.out
        exact ⟨(ns.length : Int), 0, ns ++ [x], rfl, hR, (Af.of HB5.out (by rw [HP.out]; exact hbw)).trans hAf, .inr (.inr (.inr ⟨HMY.out, HG8.out.absent HV.out, by have := HLG.out; omega, rfl, rfl, rfl⟩))⟩
end Go.Proofs.YthbfaledmoobjaaDoor
