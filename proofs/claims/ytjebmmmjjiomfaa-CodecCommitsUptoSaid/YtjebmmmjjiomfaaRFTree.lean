/- The walks of the reference's tree and TakeTree, that read. -/
import Derived.Test.YtjebmmmjjiomfaaRFNode
namespace Go.Proofs.Ytjebmmmjjiomfaa
open Go.RowKit

set_option maxRecDepth 100000 in
set_option maxHeartbeats 4000000 in
theorem rftree_ok (p : Nat) (X : Nat → Prop) (o : Option (List UInt8)) (w : World) (h : RF X w p o) (hX : X p) :
    Calls Try.prog 68 #[.pointer (some ⟨p, 0, none⟩)] w (RQ rTree TV X p o w) := by
  have hbit := h.bit
  have HV := Lib.hid (rfvec_ok p (plus X w) o w (h.weak (fun i hi e => by rcases e with e | e; exact e; omega)) (.inl hX))
  have HX := Lib.hid hX
  clear h hX
  go_enter Try.func68, Try.ntmps68
  go_wp2_with fail
  refine HV.out.mono ?_
  rintro e w1 ⟨q, x, o1, rfl, hq1, hq2, hout, hxn, hp1, hv1, hK1, hxl⟩
  have HO1 := Lib.hid hout; have HP1 := Lib.hid hp1; have HK1 := Lib.hid hK1; have HXL := Lib.hid hxl; have HQ2 := Lib.hid hq2; have HQ1 := Lib.hid hq1
  clear hout hxn hp1 hK1 hxl
  go_wp2_with fail
  go_loopw [4] (fun out wr => ∃ (acc : List TN) (B : Option Addr) (d : Nat) (cs : List Value) (ov : Option (List UInt8)), out = .slice B acc.length d ∧ Hid (LR rNode x acc ov) ∧ RF (inq w q) wr q ov ∧ Hid (Ow wr (q + 1) 67 6 B acc.length d cs) ∧ Hid (Els NE wr acc cs) ∧ Hid (KX (· = q) w1 wr) ∧ Hid (acc.length + remO ov ≤ x.length + 1)) (fun _ wr => liveAt wr q)
  case atStart => exact ⟨[], none, 0, [], some x, rfl, Lib.hid (LR.start _ _), hv1, Lib.hid (Ow.nil _ _ _ _), Lib.hid rfl, Lib.hid (KX.refl _ _), Lib.hid (by simp [remO])⟩
  case round =>
    obtain ⟨acc, B, d, cs, ov, rfl, HL, hv, HO, HE, HK, HR⟩ := hrel
    have HM := Lib.hid (rfmore_ok q (inq w q) ov wr hv)
    obtain ⟨m, hm⟩ : ∃ m, moreO ov = m := ⟨_, rfl⟩
    rw [hm] at HM
    cases m
    · have HMO := Lib.hid hm
      have hp := HP1.out.kx HK.out (fun i e _ => .inr (by omega)) (by omega)
      have HPP := Lib.hid hp
      obtain ⟨A1, n1, c1, e0, e1, e2⟩ := hp.cells
      obtain ⟨A2, n2, c2, f0, f1, f2⟩ := hv.cells
      have hfin : ∀ b : Bool, b = (fin o1 ov).isNone → RQ rTree TV X p o w (.returned (.slice B acc.length d)) (wr.setCell ⟨p, 1, none⟩ (.bool b)) := fun b hb => by
        subst hb
        have hTV : TV acc wr (.slice B acc.length d) := ⟨_, B, d, cs, rfl, HO.out, HE.out⟩
        refine ⟨acc, _, fin o1 ov, rfl, hTV.set (q := ⟨p, 1, none⟩) HPP.out.isT (by decide) (by decide) _, LR.out HO1.out HL.out HMO.out, (RF.mark HPP.out (.inl HX.out) (fin_or _ _)).weak (fun i _ e => .inl e), ?_⟩
        exact (HK1.out.next HK.out (fun i e => .inr (by have := HQ1.out; omega))).set ⟨p, 1, none⟩ _ (.inl rfl)
      have HFIN := Lib.hid hfin
      clear hfin hp hv hm
      rcases o1 with _ | r1
      · have e1' : wr.cell? ⟨p, 1, none⟩ = some (.bool true) := e1
        clear e1
        go_wp2_with (go_at_call 88; refine HM.out.mono ?_; rintro e w9 ⟨rfl, rfl⟩)
        go_ret
        exact HFIN.out true (by cases ov <;> rfl)
      · have e1' : wr.cell? ⟨p, 1, none⟩ = some (.bool false) := e1
        clear e1
        rcases ov with _ | lv
        · have f1' : wr.cell? ⟨q, 1, none⟩ = some (.bool true) := f1
          clear f1
          go_wp2_with (go_at_call 88; refine HM.out.mono ?_; rintro e w9 ⟨rfl, rfl⟩)
          go_ret
          exact HFIN.out true rfl
        · have f1' : wr.cell? ⟨q, 1, none⟩ = some (.bool false) := f1
          clear f1
          go_wp2_with (go_at_call 88; refine HM.out.mono ?_; rintro e w9 ⟨rfl, rfl⟩)
          go_ret
          exact HFIN.out false rfl
    · rcases ov with _ | lv
      · cases hm
      · have hlv : lv ≠ [] := by intro e; subst e; cases hm
        have HC := Lib.hid (rfnode_ok q (inq w q) (some lv) wr hv (.inr (Nat.le_refl _)))
        have HLV := Lib.hid hlv
        have HLA := Lib.hid (liveAt_of hv)
        have HTQ := Lib.hid hv.isT
        clear hm hlv hv
        go_wp2_with (go_at_call 88; refine HM.out.mono ?_; rintro e w9 ⟨rfl, rfl⟩)
        refine HC.out.mono ?_
        rintro e w2 ⟨s, v, o2, rfl, ⟨B2, d2, rfl, hU⟩, h3, h4, h5⟩
        unfold nv
        have hbit2 := h4.bit
        obtain ⟨wx, hwx⟩ : ∃ wx, w2.alloc (.cells #[.int .i64 s.k, .int .i64 s.id, .int .i64 s.enc, .int .i64 s.sig, .int .i64 s.hash, .slice B2 s.un.length d2] 67) = wx := ⟨_, rfl⟩
        have hBx : Below w2.heap.size w2 wx := by rw [← hwx]; exact nxa (Below.refl _ _) _
        obtain ⟨wy, hwy⟩ : ∃ wy, wx.alloc (.cells #[.int .i64 s.k, .int .i64 s.id, .int .i64 s.enc, .int .i64 s.sig, .int .i64 s.hash, .slice B2 s.un.length d2] 67) = wy := ⟨_, rfl⟩
        have hBy : Below w2.heap.size w2 wy := by rw [← hwy]; exact nxa hBx _
        have hO2 := (HO.out.kx h5 (fun i e => (HO.out.isT e).ne HTQ.out (by decide))).below hBy
        have hE2 := (HE.out.keep (NE.k3 (K3.kx h5 (fun b e => ⟨101, by decide, by subst e; exact HTQ.out⟩)))).keep (NE.k3 (K3.of hBy))
        have hs2 := NE.k3 (K3.of hBy) s (nl s B2 d2) ⟨B2, d2, rfl, hU⟩
        have hb2 : q + 1 ≤ wy.heap.size := by have := hBy.size; omega
        have hly : Lies wy (some ⟨w2.heap.size + 1, 0, none⟩) (nl s B2 d2) := by
          have := lies_cells wx #[.int .i64 s.k, .int .i64 s.id, .int .i64 s.enc, .int .i64 s.sig, .int .i64 s.hash, .slice B2 s.un.length d2] 67
          rw [hwy, ← hwx] at this
          rwa [show (w2.alloc (.cells #[.int .i64 s.k, .int .i64 s.id, .int .i64 s.enc, .int .i64 s.sig, .int .i64 s.hash, .slice B2 s.un.length d2] 67)).heap.size = w2.heap.size + 1 by simp] at this
        have HWX := Lib.hid (show (w2.alloc (.cells #[.int .i64 s.k, .int .i64 s.id, .int .i64 s.enc, .int .i64 s.sig, .int .i64 s.hash, .slice B2 s.un.length d2] 67)).alloc (.cells #[.int .i64 s.k, .int .i64 s.id, .int .i64 s.enc, .int .i64 s.sig, .int .i64 s.hash, .slice B2 s.un.length d2] 67) = wy by rw [hwx, hwy])
        have HO2 := Lib.hid hO2; have HE2 := Lib.hid hE2; have HS2 := Lib.hid hs2; have HLY := Lib.hid hly; have HBY := Lib.hid hBy; have H5 := Lib.hid h5; have H4 := Lib.hid h4; have H3 := Lib.hid h3
        clear hwx hwy hBx hBy hO2 hE2 hs2 hly h5 h4 h3 hU
        go_wp2_with (at_builtin; rw [HWX.out]; refine wpList_app (o := ⟨some 15, _, _, _, _, _⟩) E49 rfl rfl rfl HO2.out rfl HLY.out rfl (nl_one s B2 d2) (by have := HR.out; have := HXL.out; unfold maxLen; omega) (by have := HR.out; have := HXL.out; omega) hb2 ?_; intro A3 c3 w3 hO3 hG3 hB3)
        have hrm := remO_step (fun _ _ _ e => rNode_less e) H3.out
        have hB2 : KX (fun b => q + 1 ≤ b) w2 w3 := (KX.of HBY.out).trans (KX.ofB hB3)
        have hv3 := H4.out.kx hB2 (fun i e _ => .inr (by omega)) (by omega)
        have hk3 : K3 wy w3 := (K3.refl wy).grown HO2.out (by decide) hG3
        go_roundw
        case rel =>
          refine ⟨acc ++ [s], A3, c3, cs ++ nl s B2 d2, o2, by rw [List.length_append]; rfl, Lib.hid (HL.out.step HLV.out (fun _ _ _ e => rNode_less e) H3.out), hv3, Lib.hid ?_, Lib.hid ((HE2.out.keep (NE.k3 hk3)).snoc (NE.k3 hk3 _ _ HS2.out)), Lib.hid ((HK.out.trans H5.out).next hB2 (fun i e => .inr (by have := HQ2.out; omega))), Lib.hid (by have := HR.out; rw [List.length_append, List.length_singleton]; omega)⟩
          rw [List.length_append]; exact hO3
        case measure => rw [liveAt_of hv3, HLA.out]; exact hrm
set_option maxRecDepth 100000 in
set_option maxHeartbeats 4000000 in
/-- the reference's TakeTree -/
theorem rtaketree_ok (A : Option Addr) (n c : Nat) (l : List UInt8) (w : World) (h : Sl w A n c (bv l)) (hlen : Hid (l.length ≤ 1073741824)) :
    Calls Try.prog 37 #[.slice A n c] w (TEnd (full rTree l) w) := by
  have hl : l.length = n := by have := h.len; rwa [bv_length] at this
  obtain ⟨p, hp⟩ : ∃ p, w.heap.size = p := ⟨_, rfl⟩
  obtain ⟨wa, hwa⟩ : ∃ wa, w.alloc (.cells #[.slice A n c, .bool false] 101) = wa := ⟨_, rfl⟩
  have hBa : Below w.heap.size w wa := by rw [← hwa]; exact nxa (Below.refl _ _) _
  have k0 : wa.heap[p]? = some (.cells #[.slice A n c, .bool false] 101) := by rw [← hwa, ← hp]; exact heap_alloc_new _ _
  have hsl : SlX (fun b => p ≤ b) wa A n c (bv l) := by
    refine ⟨h.below hBa, ?_⟩
    rcases h.lies with e | ⟨ad, rfl, _⟩
    · exact .inl e
    · by_cases hx : bv l = []
      · exact .inl hx
      · have := h.lies.blk rfl hx
        exact .inr ⟨ad, rfl, by show ¬ p ≤ _; omega⟩
  have hR : RF (fun b => p ≤ b) wa p (some l) := by
    refine ⟨A, c, l, by rw [hl]; exact cell_of k0 0, frz_of k0 0, cell_of k0 1, frz_of k0 1, by rw [hl]; exact hsl, hlen.out, ⟨_, _, k0⟩, fun l' e => by injection e with e; exact e.symm⟩
  have HC := Lib.hid (rftree_ok p (fun b => p ≤ b) (some l) wa hR (Nat.le_refl p))
  have HB := Lib.hid hBa; have HW := Lib.hid hwa; have HP := Lib.hid hp
  clear hBa hwa k0 hsl hR h
  go_enter Try.func37, Try.ntmps37
  go_wp2_with fail
  rw [HW.out]
  refine HC.out.mono ?_
  rintro e w1 ⟨t, v, o1, rfl, hT, h3, h4, h5⟩
  obtain ⟨B, d, rfl⟩ := hT.form
  have HD := Lib.hid (rfdone_ok p (fun b => p ≤ b) o1 w1 h4)
  have hB : Below w.heap.size w w1 := ((KX.of (X := fun _ => False) HB.out).next h5 (fun i e => .inr (by have := HP.out; omega))).below (Nat.le_refl _) (fun _ e => e.elim)
  have HBB := Lib.hid hB; have HT := Lib.hid hT.ts; have H3 := Lib.hid h3
  clear hB hT h3 h4 h5
  by_cases ho : o1 = some []
  · have HF : Hid (full rTree l = some t) := Lib.hid (by
      obtain ⟨k1, k2⟩ := H3.out
      rw [Option.bind_some] at k1 k2
      cases e : rTree l with
      | none => rw [e, ho] at k1; cases k1
      | some y =>
        rw [e, ho] at k1
        injection k1 with k1
        rw [← k2 y.1 y.2 e]
        exact full_yes (r := y.2) (a := y.1) e k1.symm)
    have HDO : Hid (doneO o1 = true) := Lib.hid (by unfold doneO; rw [decide_eq_true ho])
    rw [HDO.out] at HD
    clear ho
    go_wp2_with (go_at_call 69; refine HD.out.mono ?_; rintro e w9 ⟨rfl, rfl⟩)
    go_ret2
    exact ⟨.inl ⟨t, B, d, HF.out, rfl, HT.out⟩, HBB.out⟩
  · have HF : Hid (full rTree l = none) := Lib.hid (by
      obtain ⟨k1, k2⟩ := H3.out
      rw [Option.bind_some] at k1 k2
      cases e : rTree l with
      | none => exact full_none e
      | some y =>
        rw [e] at k1
        exact full_no (r := y.2) (a := y.1) e (fun h => ho (by rw [k1]; exact congrArg some h)))
    have HDO : Hid (doneO o1 = false) := Lib.hid (by unfold doneO; rw [decide_eq_false ho])
    rw [HDO.out] at HD
    clear ho
    go_wp2_with (go_at_call 69; refine HD.out.mono ?_; rintro e w9 ⟨rfl, rfl⟩)
    go_ret2
    exact ⟨.inr ⟨HF.out, rfl⟩, HBB.out⟩
end Go.Proofs.Ytjebmmmjjiomfaa
