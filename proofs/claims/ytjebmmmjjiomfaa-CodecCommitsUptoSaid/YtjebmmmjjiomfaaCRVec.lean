/- The walk of a reader's vector. -/
import Derived.Test.YtjebmmmjjiomfaaCRInts
namespace Go.Proofs.Ytjebmmmjjiomfaa
open Go.RowKit

/-- how long the slice in a cell is -/
def lenAt (w : World) (a : Addr) : Nat := match w.cell? a with | some (.slice _ n _) => n | _ => 0
theorem lenAt_of {w : World} {a : Addr} {A : Option Addr} {n c : Nat} (h : w.cell? a = some (.slice A n c)) : lenAt w a = n := by unfold lenAt; rw [h]
abbrev zq (z q : Nat) : Nat → Prop := fun b => b = z ∨ b = q
abbrev zo (z q : Nat) : Nat → Prop := fun b => b = z ∨ q ≤ b
/-- a round of a vector's loop -/
def Round {α : Type} (f : List UInt8 → Option (α × List UInt8)) (I : Nat → List α → World → Prop) (z q : Nat) (w1 : World) (acc : List α) (l : List UInt8) (e : Ending) (w' : World) : Prop :=
  (∃ a r, f l = some (a, r) ∧ e = .returned (.tuple #[]) ∧ RD (zo z q) w' q r ∧ I q (acc ++ [a]) w' ∧ KX (zq z q) w1 w') ∨ (f l = none ∧ e = .panicked [badE] ∧ KX (zq z q) w1 w')
/-- how a vector's reader ends -/
def VEnd {α : Type} (f : List UInt8 → Option (α × List UInt8)) (I : Nat → List α → World → Prop) (X : Nat → Prop) (z p : Nat) (l : List UInt8) (w : World) (e : Ending) (w' : World) : Prop :=
  (∃ xs r q, rL f l = some (xs, r) ∧ e = .returned (.tuple #[]) ∧ RD X w' p r ∧ I q xs w' ∧ w.heap.size ≤ q ∧ KX (zq z p) w w') ∨ (rL f l = none ∧ e = .panicked [badE] ∧ KX (zq z p) w w')
theorem many_go {α : Type} {f : List UInt8 → Option (α × List UInt8)} {x l r : List UInt8} {acc : List α} {a : α} (h : many f x = (many f l).map (acc ++ ·)) (hf : f l = some (a, r)) (hr : r.length < l.length) : many f x = (many f r).map (acc ++ [a] ++ ·) := by
  rw [h, many_some hf hr]
  cases many f r <;> simp
theorem many_bad {α : Type} {f : List UInt8 → Option (α × List UInt8)} {x l : List UInt8} {acc : List α} (h : many f x = (many f l).map (acc ++ ·)) (hl : l ≠ []) (hf : f l = none) : many f x = none := by
  rw [h, many_none hl hf]; rfl
theorem many_end {α : Type} {f : List UInt8 → Option (α × List UInt8)} {x : List UInt8} {acc : List α} (h : many f x = (many f []).map (acc ++ ·)) : many f x = some acc := by
  rw [h, many_nil]; simp
theorem rL_of {α : Type} {f : List UInt8 → Option (α × List UInt8)} {l x r : List UInt8} {xs : List α} (h : rV l = some (x, r)) (k : many f x = some xs) : rL f l = some (xs, r) := by
  unfold rL; rw [h, Option.bind_some]; dsimp only; rw [k]; rfl
theorem rL_bad {α : Type} {f : List UInt8 → Option (α × List UInt8)} {l x r : List UInt8} (h : rV l = some (x, r)) (k : many f x = none) : rL f l = none := by
  unfold rL; rw [h, Option.bind_some]; dsimp only; rw [k]; rfl
theorem rL_none {α : Type} {f : List UInt8 → Option (α × List UInt8)} {l : List UInt8} (h : rV l = none) : rL f l = none := by unfold rL; rw [h]; rfl
set_option maxRecDepth 100000 in
set_option maxHeartbeats 2000000 in
theorem rvec_ok {α : Type} (f : List UInt8 → Option (α × List UInt8)) (hf : ∀ l r a, f l = some (a, r) → r.length < l.length) (k : Nat) (cap : Array Value) (I : Nat → List α → World → Prop) (z p : Nat) (X : Nat → Prop) (l : List UInt8) (w : World)
    (h : RD X w p l) (hX : X p) (hzX : X z) (hzp : z ≠ p) (hzw : z < w.heap.size) (hlen : Hid (l.length ≤ 140737488355328))
    (hcf : ∀ (args : Array Value) (w : World), (callFunc k args).run Try.prog w = .ok (.enter k args) w)
    (hI : ∀ w1 q, KX (· = p) w w1 → w.heap.size ≤ q → q + 1 = w1.heap.size → I q [] w1)
    (H : Hid (∀ w1 q acc l' wr, KX (· = p) w w1 → w.heap.size ≤ q → q + 1 = w1.heap.size → KX (zq z q) w1 wr → RD (zo z q) wr q l' → l' ≠ [] → acc.length + l'.length ≤ l.length → I q acc wr →
      Calls Try.prog k (#[.pointer (some ⟨q, 0, none⟩)] ++ cap) wr (Round f I z q w1 acc l'))) :
    Calls Try.prog 82 #[.pointer (some ⟨p, 0, none⟩), .func (.func k) #[] cap] w (VEnd f I X z p l w) := by
  have hbit := h.bit
  obtain ⟨A, c, h1, h2, h3, h4⟩ := h
  have HB := Lib.hid (takeB_any A l.length c l w h3.1 hlen)
  have hcap := h3.1.cap; have htop := h3.1.top
  have H3 := Lib.hid h3; have H4 := Lib.hid h4; have HI := Lib.hid hI; have HF := Lib.hid hf
  clear h3 h4 hI hf
  have hpw : p < w.heap.size := World.block_lt_of_cell? w _ h1
  rcases hr : rV l with _ | ⟨x, r2⟩
  · have hne := Lib.hid (rV_none hr)
    have HR := Lib.hid hr
    clear hr
    obtain ⟨q, hq⟩ : ∃ q, (takeB l).2.2 = q := ⟨_, rfl⟩
    unfold TB at HB
    rw [hq] at HB hne
    have t1 : ((q : Int) == 0) = false := by rw [beq_eq_false_iff_ne]; have := hne.out; omega
    clear hq
    go_enter Try.func82, Try.ntmps82
    go_wp2_with (first
      | (go_at_call 57; refine HB.out.mono ?_; rintro e w1 ⟨B, d, rfl, hO, hB⟩)
      | (go_at_call 85; refine (must_no _).mono ?_; rintro e w1 ⟨rfl, rfl⟩))
    simp +zetaDelta [bodyPost]
    exact .inr ⟨rL_none HR.out, rfl, KX.of hB⟩
  · obtain ⟨h0, hx, hr2⟩ := rV_some hr
    have hrest := takeB_rest h0
    have HR := Lib.hid hr
    clear hr
    obtain ⟨q, hq⟩ : ∃ q, (takeB l).2.1 = q := ⟨_, rfl⟩
    obtain ⟨m, hm⟩ : ∃ m, (takeB l).1 = m := ⟨_, rfl⟩
    unfold TB at HB
    rw [hq] at hrest hr2
    rw [hm] at hx hrest
    obtain rfl := hx
    rw [hq, hm, h0] at HB
    have HR2 := Lib.hid hr2
    have hq1 := hrest.1; have hq2 := hrest.2.1; have hq3 := hrest.2.2
    obtain ⟨bd, rfl⟩ := RD.pos H3.out (by omega)
    clear h0 hr2 hq hm hrest
    go_enter Try.func82, Try.ntmps82
    go_wp2_with (first
      | (go_at_call 57; refine HB.out.mono ?_; rintro e w1 ⟨B, d, rfl, hO, hB⟩; have c1 := (hB.cell (p := ⟨p, 0, none⟩) hpw).trans h1; have z1 := (hB.frozen (p := ⟨p, 0, none⟩) hpw).trans h2)
      | (go_at_call 85; refine (must_ok _).mono ?_; rintro e w1 ⟨rfl, rfl⟩))
    · obtain ⟨w2, hw2⟩ : ∃ w2, w1.setCell ⟨p, 0, none⟩ (.slice (some bd) (l.length - q) 0) = w2 := ⟨_, rfl⟩
      obtain ⟨w3, hw3⟩ : ∃ w3, w2.alloc (.cells #[.slice B x.length d] 132) = w3 := ⟨_, rfl⟩
      obtain ⟨v, hv0⟩ : ∃ v, w1.heap.size = v := ⟨_, rfl⟩
      have hz2 : w2.heap.size = v := by rw [← hw2, ← hv0]; simp [World.setCell]
      have hz3 : v + 1 = w3.heap.size := by rw [← hw3]; simp [hz2]
      have hwv : w.heap.size ≤ v := by have := hB.size; omega
      have hK2 : KX (· = p) w w2 := by rw [← hw2]; exact (KX.of hB).set ⟨p, 0, none⟩ _ (.inl rfl)
      have hK3 : KX (· = p) w w3 := by rw [← hw3]; exact hK2.alloc _
      have hT1 : IsT w1 p 132 := H4.out.kx (X := fun _ => False) (KX.of hB) (fun e => e)
      have hRD : RD (plus X w) w2 p r2 := by
        have e := RD.rest (A := some bd) c1 z1 ((H3.out.weak (Y := plus X w) (fun i hi e => by rcases e with e | e; exact e; omega)).kx (Y := fun _ => False) (KX.of hB) (fun _ e _ => e.elim)) hT1 (.inl hX) hq2
        rw [if_pos h, show c - q = 0 by omega] at e
        rw [← hw2, HR2.out]
        exact e
      have hRp : RD (plus X w) w3 p r2 := by
        rw [← hw3]
        exact hRD.kx (Y := fun _ => False) ((KX.refl _ w2).alloc _) (fun _ e _ => e.elim) (fun e => e)
      have hxs : SlX (fun b => b < w.heap.size ∨ v ≤ b) w1 B x.length d (bv x) := by
        refine ⟨hO.sl, ?_⟩
        by_cases hx0 : 0 < x.length
        · obtain ⟨g, rfl, g1, g2⟩ := hO.form hx0
          exact .inr ⟨_, rfl, by show ¬ (g < _ ∨ _ ≤ g); omega⟩
        · have : x = [] := List.eq_nil_of_length_eq_zero (by omega)
          exact .inl (by rw [this]; rfl)
      have hx3 : SlX (fun b => b < w.heap.size ∨ v ≤ b) w3 B x.length d (bv x) := by
        rw [← hw3, ← hw2]
        exact hxs.kx (((KX.refl (· = p) w1).set ⟨p, 0, none⟩ _ (.inl rfl)).alloc _) (fun i e _ => by subst e; exact .inl hpw)
      have hv : w3.heap[v]? = some (.cells #[.slice B x.length d] 132) := by rw [← hw3, ← hz2]; exact heap_alloc_new _ _
      have hRv : RD (zo z v) w3 v x := ⟨B, d, cell_of hv 0, frz_of hv 0, hx3.weak (fun i _ e => by rcases e with e | e; exact .inl (by omega); exact .inr e), ⟨_, _, hv⟩⟩
      have HI0 := Lib.hid (HI.out w3 v hK3 hwv hz3)
      have HK3 := Lib.hid hK3; have HRp := Lib.hid hRp; have HZ3 := Lib.hid hz3; have HWV := Lib.hid hwv
      rw [hw2, hv0, hw3]
      clear hw2 hw3 hv0 hz2 hK2 hT1 hRD hxs hx3 hv hK3 hRp hz3 HI h1 H3 HB hO hB c1 z1 h2 H4
      go_loopw [] (fun wr => ∃ (acc : List α) (l' : List UInt8), Hid (many f x = (many f l').map (acc ++ ·)) ∧ RD (zo z v) wr v l' ∧ Hid (I v acc wr) ∧ Hid (KX (zq z v) w3 wr) ∧ Hid (acc.length + l'.length ≤ x.length)) (fun wr => lenAt wr ⟨v, 0, none⟩)
      case atStart => exact ⟨[], x, Lib.hid (by simp), hRv, HI0, Lib.hid (KX.refl _ _), Lib.hid (by simp)⟩
      case round =>
        obtain ⟨acc, l', HM, hR, HIa, HK, HL⟩ := hrel
        have hbitv := hR.bit
        rcases l' with _ | ⟨b, l'⟩
        · obtain ⟨A1, d1, e1, e2, e3, e4⟩ := hR
          clear e3 e4
          go_wp2_with fail
          go_end0
          have hK : KX (zq z p) w wr := (HK3.out.mono (fun i e => .inr e)).next HK.out (fun i e => by rcases e with e | e; exact .inl (.inl e); exact .inr (by have := HWV.out; omega))
          exact .inl ⟨acc, r2, v, rL_of HR.out (many_end HM.out), rfl, (HRp.out.kx HK.out (fun i e hi => by rcases e with e | e; exact .inl (e ▸ hzX); exact .inr (e ▸ HWV.out)) (fun e => by rcases e with e | e; exact hzp e.symm; have := HWV.out; omega)).weak (fun i _ e => .inl e), HIa.out, HWV.out, hK⟩
        · have hC := Lib.hid (H.out w3 v acc (b :: l') wr HK3.out HWV.out HZ3.out HK.out hR (by simp) (by have := HL.out; omega) HIa.out)
          obtain ⟨A1, d1, e1, e2, e3, e4⟩ := hR
          have HLA := Lib.hid (lenAt_of e1)
          have i1 : (0 : Int) < ((b :: l').length : Nat) := by simp
          clear e3 e4
          obtain ⟨L, hL⟩ : ∃ L, b :: l' = L := ⟨_, rfl⟩
          have HNE : Hid (L ≠ []) := Lib.hid (by rw [← hL]; simp)
          rw [hL] at hC e1 HLA i1 HM HL
          clear hL
          go_wp2_with fail
          refine Calls.mono hC.out ?_
          rintro e w4 (⟨a, r, f1, rfl, f3, f4, f5⟩ | ⟨f1, rfl, f3⟩)
          · go_wp2_with fail
            go_roundw
            case rel => exact ⟨acc ++ [a], r, Lib.hid (many_go HM.out f1 (HF.out _ _ _ f1)), f3, Lib.hid f4, Lib.hid f5, Lib.hid (by have := HF.out _ _ _ f1; have := HL.out; show (acc ++ [a]).length + r.length ≤ x.length; rw [List.length_append, List.length_singleton]; omega)⟩
            case measure =>
              obtain ⟨A2, d2, e5, _⟩ := f3
              rw [lenAt_of e5, HLA.out]
              exact HF.out _ _ _ f1
          · simp +zetaDelta [Exit.then, Exit.inBlock, bodyPost]
            have hK : KX (zq z p) w w4 := (HK3.out.mono (fun i e => .inr e)).next f3 (fun i e => by rcases e with e | e; exact .inl (.inl e); exact .inr (by have := HWV.out; omega))
            exact .inr ⟨rL_bad HR.out (many_bad HM.out HNE.out f1), rfl, hK⟩
    · obtain ⟨w2, hw2⟩ : ∃ w2, w1.setCell ⟨p, 0, none⟩ (.slice (some (bd.add q)) (l.length - q) (c - q)) = w2 := ⟨_, rfl⟩
      obtain ⟨w3, hw3⟩ : ∃ w3, w2.alloc (.cells #[.slice B x.length d] 132) = w3 := ⟨_, rfl⟩
      obtain ⟨v, hv0⟩ : ∃ v, w1.heap.size = v := ⟨_, rfl⟩
      have hz2 : w2.heap.size = v := by rw [← hw2, ← hv0]; simp [World.setCell]
      have hz3 : v + 1 = w3.heap.size := by rw [← hw3]; simp [hz2]
      have hwv : w.heap.size ≤ v := by have := hB.size; omega
      have hK2 : KX (· = p) w w2 := by rw [← hw2]; exact (KX.of hB).set ⟨p, 0, none⟩ _ (.inl rfl)
      have hK3 : KX (· = p) w w3 := by rw [← hw3]; exact hK2.alloc _
      have hT1 : IsT w1 p 132 := H4.out.kx (X := fun _ => False) (KX.of hB) (fun e => e)
      have hRD : RD (plus X w) w2 p r2 := by
        have e := RD.rest (A := some bd) c1 z1 ((H3.out.weak (Y := plus X w) (fun i hi e => by rcases e with e | e; exact e; omega)).kx (Y := fun _ => False) (KX.of hB) (fun _ e _ => e.elim)) hT1 (.inl hX) hq2
        rw [if_neg h] at e
        rw [← hw2, HR2.out]
        exact e
      have hRp : RD (plus X w) w3 p r2 := by
        rw [← hw3]
        exact hRD.kx (Y := fun _ => False) ((KX.refl _ w2).alloc _) (fun _ e _ => e.elim) (fun e => e)
      have hxs : SlX (fun b => b < w.heap.size ∨ v ≤ b) w1 B x.length d (bv x) := by
        refine ⟨hO.sl, ?_⟩
        by_cases hx0 : 0 < x.length
        · obtain ⟨g, rfl, g1, g2⟩ := hO.form hx0
          exact .inr ⟨_, rfl, by show ¬ (g < _ ∨ _ ≤ g); omega⟩
        · have : x = [] := List.eq_nil_of_length_eq_zero (by omega)
          exact .inl (by rw [this]; rfl)
      have hx3 : SlX (fun b => b < w.heap.size ∨ v ≤ b) w3 B x.length d (bv x) := by
        rw [← hw3, ← hw2]
        exact hxs.kx (((KX.refl (· = p) w1).set ⟨p, 0, none⟩ _ (.inl rfl)).alloc _) (fun i e _ => by subst e; exact .inl hpw)
      have hv : w3.heap[v]? = some (.cells #[.slice B x.length d] 132) := by rw [← hw3, ← hz2]; exact heap_alloc_new _ _
      have hRv : RD (zo z v) w3 v x := ⟨B, d, cell_of hv 0, frz_of hv 0, hx3.weak (fun i _ e => by rcases e with e | e; exact .inl (by omega); exact .inr e), ⟨_, _, hv⟩⟩
      have HI0 := Lib.hid (HI.out w3 v hK3 hwv hz3)
      have HK3 := Lib.hid hK3; have HRp := Lib.hid hRp; have HZ3 := Lib.hid hz3; have HWV := Lib.hid hwv
      rw [hw2, hv0, hw3]
      clear hw2 hw3 hv0 hz2 hK2 hT1 hRD hxs hx3 hv hK3 hRp hz3 HI h1 H3 HB hO hB c1 z1 h2 H4
      go_loopw [] (fun wr => ∃ (acc : List α) (l' : List UInt8), Hid (many f x = (many f l').map (acc ++ ·)) ∧ RD (zo z v) wr v l' ∧ Hid (I v acc wr) ∧ Hid (KX (zq z v) w3 wr) ∧ Hid (acc.length + l'.length ≤ x.length)) (fun wr => lenAt wr ⟨v, 0, none⟩)
      case atStart => exact ⟨[], x, Lib.hid (by simp), hRv, HI0, Lib.hid (KX.refl _ _), Lib.hid (by simp)⟩
      case round =>
        obtain ⟨acc, l', HM, hR, HIa, HK, HL⟩ := hrel
        have hbitv := hR.bit
        rcases l' with _ | ⟨b, l'⟩
        · obtain ⟨A1, d1, e1, e2, e3, e4⟩ := hR
          clear e3 e4
          go_wp2_with fail
          go_end0
          have hK : KX (zq z p) w wr := (HK3.out.mono (fun i e => .inr e)).next HK.out (fun i e => by rcases e with e | e; exact .inl (.inl e); exact .inr (by have := HWV.out; omega))
          exact .inl ⟨acc, r2, v, rL_of HR.out (many_end HM.out), rfl, (HRp.out.kx HK.out (fun i e hi => by rcases e with e | e; exact .inl (e ▸ hzX); exact .inr (e ▸ HWV.out)) (fun e => by rcases e with e | e; exact hzp e.symm; have := HWV.out; omega)).weak (fun i _ e => .inl e), HIa.out, HWV.out, hK⟩
        · have hC := Lib.hid (H.out w3 v acc (b :: l') wr HK3.out HWV.out HZ3.out HK.out hR (by simp) (by have := HL.out; omega) HIa.out)
          obtain ⟨A1, d1, e1, e2, e3, e4⟩ := hR
          have HLA := Lib.hid (lenAt_of e1)
          have i1 : (0 : Int) < ((b :: l').length : Nat) := by simp
          clear e3 e4
          obtain ⟨L, hL⟩ : ∃ L, b :: l' = L := ⟨_, rfl⟩
          have HNE : Hid (L ≠ []) := Lib.hid (by rw [← hL]; simp)
          rw [hL] at hC e1 HLA i1 HM HL
          clear hL
          go_wp2_with fail
          refine Calls.mono hC.out ?_
          rintro e w4 (⟨a, r, f1, rfl, f3, f4, f5⟩ | ⟨f1, rfl, f3⟩)
          · go_wp2_with fail
            go_roundw
            case rel => exact ⟨acc ++ [a], r, Lib.hid (many_go HM.out f1 (HF.out _ _ _ f1)), f3, Lib.hid f4, Lib.hid f5, Lib.hid (by have := HF.out _ _ _ f1; have := HL.out; show (acc ++ [a]).length + r.length ≤ x.length; rw [List.length_append, List.length_singleton]; omega)⟩
            case measure =>
              obtain ⟨A2, d2, e5, _⟩ := f3
              rw [lenAt_of e5, HLA.out]
              exact HF.out _ _ _ f1
          · simp +zetaDelta [Exit.then, Exit.inBlock, bodyPost]
            have hK : KX (zq z p) w w4 := (HK3.out.mono (fun i e => .inr e)).next f3 (fun i e => by rcases e with e | e; exact .inl (.inl e); exact .inr (by have := HWV.out; omega))
            exact .inr ⟨rL_bad HR.out (many_bad HM.out HNE.out f1), rfl, hK⟩
end Go.Proofs.Ytjebmmmjjiomfaa
