/- The walk of the reference's ints, that read. -/
import Derived.Test.YtjebmmmjjiomfaaRFBase
import Derived.Test.YtjebmmmjjiomfaaCRTree
namespace Go.Proofs.Ytjebmmmjjiomfaa
open Go.RowKit

/-- what a loop over a vector's reader has done -/
def LR {α : Type} (f : List UInt8 → Option (α × List UInt8)) (x : List UInt8) (acc : List α) (ov : Option (List UInt8)) : Prop :=
  (∀ l', ov = some l' → many f x = (many f l').map (acc ++ ·)) ∧ (ov = none → many f x = none)
section
variable {α : Type} {f : List UInt8 → Option (α × List UInt8)} {x l : List UInt8} {acc : List α} {a : α} {o o1 ov o2 : Option (List UInt8)}
theorem LR.start (f : List UInt8 → Option (α × List UInt8)) (x : List UInt8) : LR f x [] (some x) :=
  ⟨fun l' h => by injection h with h; subst h; simp, fun h => by cases h⟩
theorem LR.step (h : LR f x acc (some l)) (hl : l ≠ []) (hf : ∀ l r a, f l = some (a, r) → r.length < l.length) (k : Out f (some l) a o2) : LR f x (acc ++ [a]) o2 := by
  have h1 := h.1 l rfl
  obtain ⟨k1, k2⟩ := k
  rw [Option.bind_some] at k1 k2
  cases e : f l with
  | none =>
    rw [e] at k1
    refine ⟨fun l' h => (by rw [k1] at h; cases h), fun _ => many_bad h1 hl e⟩
  | some y =>
    rw [e] at k1
    have := k2 y.1 y.2 e
    refine ⟨fun l' h => ?_, fun h => by rw [k1] at h; cases h⟩
    rw [k1] at h
    injection h with h
    subst h
    rw [← this]
    exact many_go h1 e (hf _ _ _ e)
/-- the state behind a vector's reading -/
def fin (o1 ov : Option (List UInt8)) : Option (List UInt8) := match ov with | none => none | some _ => o1
theorem fin_or (o1 ov : Option (List UInt8)) : fin o1 ov = none ∨ fin o1 ov = o1 := by cases ov; exact .inl rfl; exact .inr rfl
theorem LR.out (hv : Out rV o l o1) (h : LR f l acc ov) (hov : moreO ov = false) : Out (rL f) o acc (fin o1 ov) := by
  cases o with
  | none =>
    have : o1 = none := hv.1
    subst this
    refine ⟨by cases ov <;> rfl, fun a' r e => by cases e⟩
  | some y =>
    obtain ⟨h1, h2⟩ := hv
    rw [Option.bind_some] at h1 h2
    cases e : rV y with
    | none =>
      rw [e] at h1
      subst h1
      exact ⟨by rw [Option.bind_some, rL_none e]; cases ov <;> rfl, fun a' r e2 => by rw [Option.bind_some, rL_none e] at e2; cases e2⟩
    | some z =>
      rw [e] at h1
      subst h1
      have := h2 z.1 z.2 e
      rw [show z = (l, z.2) from by rw [← this]] at e
      cases ov with
      | none => exact ⟨by rw [Option.bind_some, rL_bad e (h.2 rfl)]; rfl, fun a' r e2 => by rw [Option.bind_some, rL_bad e (h.2 rfl)] at e2; cases e2⟩
      | some l' =>
        have hl : l' = [] := by
          cases l' with
          | nil => rfl
          | cons b t => simp [moreO] at hov
        subst hl
        have hm := many_end (h.1 [] rfl)
        exact ⟨by rw [Option.bind_some, rL_of e hm]; rfl, fun a' r e2 => by rw [Option.bind_some, rL_of e hm] at e2; injection e2 with e2; injection e2 with e2 _; exact e2.symm⟩
end
/-- what is left to be read, and one -/
def remO : Option (List UInt8) → Nat
  | none => 0
  | some l => l.length + 1
theorem remO_step {α : Type} {f : List UInt8 → Option (α × List UInt8)} {l : List UInt8} {a : α} {o2 : Option (List UInt8)} (hf : ∀ l r a, f l = some (a, r) → r.length < l.length) (k : Out f (some l) a o2) : remO o2 < remO (some l) := by
  obtain ⟨k1, _⟩ := k
  rw [Option.bind_some] at k1
  cases e : f l with
  | none => rw [e] at k1; subst k1; simp [remO]
  | some y => rw [e] at k1; subst k1; have := hf _ _ _ e; simp [remO]; omega
def liveAt (w : World) (q : Nat) : Nat := match w.cell? ⟨q, 1, none⟩ with | some (.bool false) => lenAt w ⟨q, 0, none⟩ + 1 | _ => 0
theorem liveAt_of {X : Nat → Prop} {w : World} {q : Nat} {o : Option (List UInt8)} (h : RF X w q o) : liveAt w q = remO o := by
  obtain ⟨A, c, l, h1, _, h3, _, _, _, _, h8⟩ := h
  unfold liveAt
  rw [h3]
  cases o with
  | none => rfl
  | some l' =>
    have := h8 l' rfl
    subst this
    show lenAt w ⟨q, 0, none⟩ + 1 = _
    rw [lenAt_of h1]; rfl
/-- a reader's marks joined -/
theorem RF.cells {X : Nat → Prop} {w : World} {p : Nat} {o : Option (List UInt8)} (h : RF X w p o) : ∃ A c l, w.cell? ⟨p, 0, none⟩ = some (.slice A l c) ∧ w.cell? ⟨p, 1, none⟩ = some (.bool o.isNone) ∧ w.frozen? ⟨p, 1, none⟩ = false := by
  obtain ⟨A, c, l, h1, _, h3, h4, _⟩ := h; exact ⟨A, c, _, h1, h3, h4⟩
/-- set of a reader inside -/
abbrev inq (w : World) (q : Nat) : Nat → Prop := fun b => b < w.heap.size ∨ q ≤ b
set_option maxRecDepth 100000 in
set_option maxHeartbeats 4000000 in
theorem rfints_ok (p : Nat) (X : Nat → Prop) (o : Option (List UInt8)) (w : World) (h : RF X w p o) (hX : X p) :
    Calls Try.prog 90 #[.pointer (some ⟨p, 0, none⟩)] w (RQ (rL rI) LV X p o w) := by
  have hbit := h.bit
  have HV := Lib.hid (rfvec_ok p (plus X w) o w (h.weak (fun i hi e => by rcases e with e | e; exact e; omega)) (.inl hX))
  have HX := Lib.hid hX
  clear h hX
  go_enter Try.func90, Try.ntmps90
  go_wp2_with fail
  refine HV.out.mono ?_
  rintro e w1 ⟨q, x, o1, rfl, hq1, hq2, hout, hxn, hp1, hv1, hK1, hxl⟩
  have HO1 := Lib.hid hout; have HP1 := Lib.hid hp1; have HK1 := Lib.hid hK1; have HXL := Lib.hid hxl; have HQ2 := Lib.hid hq2; have HQ1 := Lib.hid hq1
  clear hout hxn hp1 hK1 hxl
  go_wp2_with fail
  go_loopw [4] (fun out wr => ∃ (acc : List Int) (B : Option Addr) (d : Nat) (ov : Option (List UInt8)), out = .slice B acc.length d ∧ Hid (LR rI x acc ov) ∧ RF (inq w q) wr q ov ∧ Hid (Ow wr (q + 1) 3 1 B acc.length d (iv acc)) ∧ Hid (KX (· = q) w1 wr) ∧ Hid (acc.length + remO ov ≤ x.length + 1)) (fun _ wr => liveAt wr q)
  case atStart => exact ⟨[], none, 0, some x, rfl, Lib.hid (LR.start _ _), hv1, Lib.hid (Ow.nil _ _ _ _), Lib.hid (KX.refl _ _), Lib.hid (by simp [remO])⟩
  case round =>
    obtain ⟨acc, B, d, ov, rfl, HL, hv, HO, HK, HR⟩ := hrel
    have HM := Lib.hid (rfmore_ok q (inq w q) ov wr hv)
    have HV1 := Lib.hid hv
    obtain ⟨m, hm⟩ : ∃ m, moreO ov = m := ⟨_, rfl⟩
    rw [hm] at HM
    cases m
    · have HMO := Lib.hid hm
      have hp := HP1.out.kx HK.out (fun i e _ => .inr (by omega)) (by omega)
      have HPP := Lib.hid hp
      obtain ⟨A1, n1, c1, e0, e1, e2⟩ := hp.cells
      obtain ⟨A2, n2, c2, f0, f1, f2⟩ := hv.cells
      have hfin : ∀ b : Bool, b = (fin o1 ov).isNone → RQ (rL rI) LV X p o w (.returned (.slice B acc.length d)) (wr.setCell ⟨p, 1, none⟩ (.bool b)) := fun b hb => by
        subst hb
        refine ⟨acc, _, fin o1 ov, rfl, ⟨B, d, rfl, UO.of (HO.out.kx ((KX.refl (· = p) wr).set ⟨p, 1, none⟩ _ (.inl rfl)) (fun i e => by have := HO.out.inb e; have := HQ1.out; omega))⟩, LR.out HO1.out HL.out HMO.out, (RF.mark HPP.out (.inl HX.out) (fin_or _ _)).weak (fun i _ e => .inl e), ?_⟩
        exact (HK1.out.next HK.out (fun i e => .inr (by have := HQ1.out; omega))).set ⟨p, 1, none⟩ _ (.inl rfl)
      have HFIN := Lib.hid hfin
      clear hfin hp hv hm
      rcases o1 with _ | r1
      · have e1' : wr.cell? ⟨p, 1, none⟩ = some (.bool true) := e1
        clear e1
        go_wp2_with (go_at_call 88; refine HM.out.mono ?_; rintro e w9 ⟨rfl, rfl⟩)
        go_ret
        exact HFIN.out true (by cases ov <;> rfl)
      · have e1' : wr.cell? ⟨p, 1, none⟩ = some (.bool false) := e1
        clear e1
        rcases ov with _ | lv
        · have f1' : wr.cell? ⟨q, 1, none⟩ = some (.bool true) := f1
          clear f1
          go_wp2_with (go_at_call 88; refine HM.out.mono ?_; rintro e w9 ⟨rfl, rfl⟩)
          go_ret
          exact HFIN.out true rfl
        · have f1' : wr.cell? ⟨q, 1, none⟩ = some (.bool false) := f1
          clear f1
          go_wp2_with (go_at_call 88; refine HM.out.mono ?_; rintro e w9 ⟨rfl, rfl⟩)
          go_ret
          exact HFIN.out false rfl
    · rcases ov with _ | lv
      · cases hm
      · have hlv : lv ≠ [] := by intro e; subst e; cases hm
        have HC := Lib.hid (rfint_ok q (inq w q) (some lv) wr hv (.inr (Nat.le_refl _)))
        have HLV := Lib.hid hlv
        have HLA := Lib.hid (liveAt_of hv)
        clear hm hlv hv
        go_wp2_with (first
          | (go_at_call 88; refine HM.out.mono ?_; rintro e w9 ⟨rfl, rfl⟩)
          | (go_at_call 76; refine HC.out.mono ?_; rintro e w2 ⟨a, v, o2, rfl, rfl, h3, h4, h5⟩; have hO2 := HO.out.kx h5 (fun i e => by have := HO.out.inb e; omega); have hb2 : q + 1 ≤ (w2.alloc (.cells #[.int .i64 a] 3)).heap.size := by (have := h4.bit; simp; omega))
          | (at_builtin; refine wpList_app (o := ⟨some 15, _, _, _, _, _⟩) E65 rfl rfl rfl (hO2.alloc (.cells #[.int .i64 a] 3)) rfl (lies_new w2 (.int .i64 a) 3) rfl (iv_one [a]) (by have := HR.out; have := HXL.out; unfold maxLen; omega) (by have := HR.out; have := HXL.out; omega) hb2 ?_; intro A3 c3 w3 hO3 hG3 hB3))
        have hrm := remO_step (fun _ _ _ e => (rI_less e).1) h3
        have hB2 : KX (fun b => q + 1 ≤ b) w2 w3 := (KX.of (nxa (Below.refl _ _) _)).trans (KX.ofB hB3)
        have hv3 := h4.kx hB2 (fun i e _ => .inr (by omega)) (by omega)
        go_roundw
        case rel =>
          refine ⟨acc ++ [a], A3, c3, o2, by rw [List.length_append]; rfl, Lib.hid (HL.out.step HLV.out (fun _ _ _ e => (rI_less e).1) h3), hv3, Lib.hid ?_, Lib.hid ((HK.out.trans h5).next hB2 (fun i e => .inr (by have := HQ2.out; omega))), Lib.hid (by have := HR.out; rw [List.length_append, List.length_singleton]; omega)⟩
          rw [List.length_append, iv_append]; exact hO3
        case measure => rw [liveAt_of hv3, HLA.out]; exact hrm
end Go.Proofs.Ytjebmmmjjiomfaa
