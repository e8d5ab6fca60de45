/- The walks of a reader's tree, of read, of codec.TakeTree. -/
import Derived.Test.YtjebmmmjjiomfaaCREls
import Derived.Test.YtjebmmmjjiomfaaCWritten
namespace Go.Proofs.Ytjebmmmjjiomfaa
open Go.RowKit

theorem cf103 (args : Array Value) (w : World) : (callFunc 103 args).run Try.prog w = .ok (.enter 103 args) w := by kernel_rfl
theorem Ow.isT {w : World} {base : Nat} {e : TypeId} {size : Nat} {A : Option Addr} {n c : Nat} {xs : List Value} (h : Ow w base e size A n c xs) {g : Nat} (hg : A = some ⟨g, 0, none⟩) : IsT w g e := by
  subst hg
  rcases h.2 with ⟨hv, _⟩ | ⟨g2, cap, cur, hv, _, hh, _⟩
  · cases hv
  · injection hv with e1; injection e1 with e1; injection e1 with e1; subst e1; exact ⟨_, _, hh⟩
theorem IsT.ne {w : World} {a b : Nat} {s t : TypeId} (h : IsT w a s) (k : IsT w b t) (hst : s ≠ t) : a ≠ b := by
  intro e; subst e
  obtain ⟨_, _, h⟩ := h; obtain ⟨_, _, k⟩ := k
  rw [h] at k; injection k with k; injection k with _ k; exact hst k
theorem Ow.setT {w : World} {base : Nat} {e T : TypeId} {size : Nat} {A : Option Addr} {n c : Nat} {xs : List Value} (h : Ow w base e size A n c xs) {q : Addr} (hq : IsT w q.block T) (hT : T ≠ e) (v : Value) : Ow (w.setCell q v) base e size A n c xs :=
  h.kx ((KX.refl (· = q.block) w).set q v (.inl rfl)) (fun _ hg => (h.isT hg).ne hq (fun e => hT e.symm))
/-- what a tree's reader answers -/
def TV (t : List TN) (w : World) (v : Value) : Prop := ∃ base A c cs, v = .slice A t.length c ∧ Ow w base 67 6 A t.length c cs ∧ Els NE w t cs
theorem TV.set {t : List TN} {w : World} {v : Value} {T : TypeId} {q : Addr} (h : TV t w v) (hq : IsT w q.block T) (h1 : T ≠ 67) (h2 : T ≠ 3) (u : Value) : TV t (w.setCell q u) v := by
  obtain ⟨base, A, c, cs, e1, e2, e3⟩ := h
  exact ⟨base, A, c, cs, e1, e2.setT hq h1 u, e3.keep (NE.k3 ((K3.refl w).set hq h2 u))⟩
theorem TV.ts {t : List TN} {w : World} {A : Option Addr} {n c : Nat} (h : TV t w (.slice A n c)) : Ts w A n c t := by
  obtain ⟨base, A, c, cs, e1, e2, e3⟩ := h
  injection e1 with e4 e5 e6; subst e4 e5 e6
  exact Ts.of rfl e2 e3
theorem TV.form {t : List TN} {w : World} {v : Value} (h : TV t w v) : ∃ A c, v = .slice A t.length c := by
  obtain ⟨base, A, c, cs, e1, e2, e3⟩ := h; exact ⟨A, c, e1⟩
set_option maxRecDepth 100000 in
theorem rtree_ok (p : Nat) (X : Nat → Prop) (l : List UInt8) (w : World) (h : RD X w p l) (hX : X p) (hlen : Hid (l.length ≤ 1073741824)) :
    Calls Try.prog 67 #[.pointer (some ⟨p, 0, none⟩)] w (REnd (rTree l) TV X p w) := by
  have hmf := hmfT
  have hbit := h.bit
  obtain ⟨z, hz⟩ : ∃ z, w.heap.size = z := ⟨_, rfl⟩
  obtain ⟨wz, hwz⟩ : ∃ wz, w.alloc (.cells #[.slice none 0 0] 49) = wz := ⟨_, rfl⟩
  have hBz : Below w.heap.size w wz := by rw [← hwz]; exact nxa (Below.refl _ _) _
  have hzz : wz.heap.size = z + 1 := by rw [← hwz]; simp [hz]
  have k0 : wz.heap[z]? = some (.cells #[.slice none 0 0] 49) := by rw [← hwz, ← hz]; exact heap_alloc_new _ _
  have hR : RD (plus X w) wz p l := h.plus.kx (Y := fun _ => False) (KX.of hBz) (fun _ e _ => e.elim) (fun e => e)
  have HV := Lib.hid (rvec_ok rNode (fun _ _ _ e => rNode_less e) 103 #[.pointer (some ⟨z, 0, none⟩)] (fun q acc w => IE NE 67 6 ⟨z, 0, none⟩ q acc w ∧ IsT w z 49) z p (plus X w) l wz hR (.inl hX) (.inr (by omega)) (by omega) (by omega) (Lib.hid (by have := hlen.out; omega)) cf103
    (fun w1 q hK hq1 hq2 => ⟨⟨none, 0, [], hK.cell (cell_of k0 0) (by show z ≠ p; omega), hK.frz (frz_of k0 0) (by show z ≠ p; omega) (by show z < _; omega), Ow.nil _ _ _ _, rfl⟩, IsT.kx ⟨_, _, k0⟩ hK (by omega)⟩)
    (Lib.hid (fun w1 q acc l' wr hK0 hq1 hq2 hK hR hne hN hI => rtree1_ok z q acc l' w1 wr hq2 (by omega) hK hR hI.2 hI.1 (Lib.hid (by have := hlen.out; omega)))))
  have HB := Lib.hid hBz; have HW := Lib.hid hwz; have HZ := Lib.hid hz
  clear hBz hwz hR k0 hzz
  go_enter Try.func67, Try.ntmps67
  go_wp2_with fail
  rw [HW.out]
  refine HV.out.mono ?_
  rintro e w2 (⟨xs, r, q, f1, rfl, f3, ⟨⟨A, c, cs, c1, z1, hO, hE⟩, hT⟩, f5, f6⟩ | ⟨f1, rfl, f3⟩)
  · have HF := Lib.hid f3; have HO := Lib.hid hO; have HK := Lib.hid f6; have HE := Lib.hid hE; have HT := Lib.hid hT
    clear f3 hO f6 hE hT
    go_wp2_with fail
    have c2 := World.cell?_setCell_same w2 ⟨z, 0, none⟩ (.slice A xs.length c) c1
    simp [bodyPost, results, Try.results67, go_sem, c2]
    refine .inl ⟨xs, r, _, f1, rfl, TV.set (q := ⟨z, 0, none⟩) ⟨_, A, c, cs, rfl, HO.out, HE.out⟩ HT.out (by decide) (by decide) _, ?_, ?_⟩
    · exact (HF.out.kx ((KX.refl (· = z) w2).set ⟨z, 0, none⟩ _ (.inl rfl)) (fun i e _ => .inr (by have := HZ.out; omega)) (by have := HZ.out; omega)).weak (fun i _ e => .inl e)
    · exact ((KX.of (X := (· = p)) HB.out).next HK.out (fun i e => by rcases e with e | e; exact .inr (by have := HZ.out; omega); exact .inl e)).set ⟨z, 0, none⟩ _ (.inr (by show _ ≤ z; have := HZ.out; omega))
  · simp [bodyPost]
    exact .inr ⟨f1, rfl, (KX.of (X := (· = p)) HB.out).next f3 (fun i e => by rcases e with e | e; exact .inr (by have := HZ.out; omega); exact .inl e)⟩
/-- how what is done with a reader ends -/
def FEnd {α : Type} (f : List UInt8 → Option (α × List UInt8)) (J : α → World → Prop) (z p : Nat) (l : List UInt8) (w : World) (e : Ending) (w' : World) : Prop :=
  (∃ a r X, f l = some (a, r) ∧ e = .returned (.tuple #[]) ∧ RD X w' p r ∧ J a w' ∧ KX (zq z p) w w') ∨ (f l = none ∧ e = .panicked [badE] ∧ KX (zq z p) w w')
theorem full_yes {α : Type} {f : List UInt8 → Option (α × List UInt8)} {l r : List UInt8} {a : α} (h : f l = some (a, r)) (hr : r = []) : full f l = some a := by unfold full; rw [h, Option.bind_some]; exact if_pos hr
theorem full_no {α : Type} {f : List UInt8 → Option (α × List UInt8)} {l r : List UInt8} {a : α} (h : f l = some (a, r)) (hr : r ≠ []) : full f l = none := by unfold full; rw [h, Option.bind_some]; exact if_neg hr
theorem full_none {α : Type} {f : List UInt8 → Option (α × List UInt8)} {l : List UInt8} (h : f l = none) : full f l = none := by unfold full; rw [h]; rfl
theorem read1_ok {α : Type} (f : List UInt8 → Option (α × List UInt8)) (J : α → World → Prop) (z g0 g1 k : Nat) (cap : Array Value) (l : List UInt8) (A : Option Addr) (n c : Nat) (w : World)
    (h0 : w.cell? ⟨g0, 0, none⟩ = some (.slice A n c)) (h1 : w.cell? ⟨g1, 0, none⟩ = some (.func (.func k) #[] cap))
    (hcf : ∀ (args : Array Value) (w : World), (callFunc k args).run Try.prog w = .ok (.enter k args) w)
    (H : Hid (Calls Try.prog k (#[.pointer (some ⟨w.heap.size, 0, none⟩)] ++ cap) (w.alloc (.cells #[.slice A n c] 132)) (FEnd f J z w.heap.size l (w.alloc (.cells #[.slice A n c] 132))))) :
    Calls Try.prog 102 #[.pointer (some ⟨g0, 0, none⟩), .pointer (some ⟨g1, 0, none⟩)] w fun e w' =>
      (∃ a, full f l = some a ∧ e = .returned (.tuple #[]) ∧ J a w' ∧ KX (· = z) w w') ∨ (full f l = none ∧ e = .panicked [badE] ∧ KX (· = z) w w') := by
  have hKa : ∀ w', KX (zq z w.heap.size) (w.alloc (.cells #[.slice A n c] 132)) w' → KX (· = z) w w' := fun w' hk =>
    (KX.of (X := (· = z)) (nxa (Below.refl _ w) _)).next hk (fun i e => by rcases e with e | e; exact .inl e; exact .inr (by omega))
  have HKA := Lib.hid hKa
  have h1' := (World.cell?_alloc_lt w (.cells #[.slice A n c] 132) _ (World.block_lt_of_cell? _ _ h1)).trans h1
  clear hKa h1
  go_enter Try.func102, Try.ntmps102
  go_wp2_with fail
  refine Calls.mono H.out ?_
  rintro e w2 (⟨a, r, X, f1, rfl, f3, f4, f5⟩ | ⟨f1, rfl, f3⟩)
  · obtain ⟨B, d, c1, _, _, _⟩ := f3
    have hK := HKA.out _ f5
    by_cases hr : r = []
    · have HN := Lib.hid (full_yes f1 hr)
      subst hr
      clear f1
      go_wp2_with (go_at_call 85; refine (must_ok _).mono ?_; rintro e w1 ⟨rfl, rfl⟩)
      go_end0
      exact .inl ⟨a, HN.out, rfl, f4, hK⟩
    · have HN := Lib.hid (full_no f1 hr)
      have t : ((r.length : Int) == 0) = false := by rw [beq_eq_false_iff_ne]; intro e; exact hr (List.eq_nil_of_length_eq_zero (by omega))
      clear f1 hr
      go_wp2_with (go_at_call 85; refine (must_no _).mono ?_; rintro e w1 ⟨rfl, rfl⟩)
      simp +zetaDelta [bodyPost]
      exact ⟨HN.out, hK⟩
  · have hK := HKA.out _ f3
    simp +zetaDelta [bodyPost]
    exact ⟨full_none f1, hK⟩
theorem cf102 (args : Array Value) (w : World) : (callFunc 102 args).run Try.prog w = .ok (.enter 102 args) w := by kernel_rfl
/-- how read ends -/
def Took {α : Type} (f : List UInt8 → Option (α × List UInt8)) (J : α → World → Prop) (z : Nat) (l : List UInt8) (w : World) (e : Ending) (w' : World) : Prop :=
  ((∃ a, full f l = some a ∧ e = .returned (.int .i64 0) ∧ J a w') ∨ (full f l = none ∧ e = .returned (.int .i64 11))) ∧ KX (· = z) w w'
set_option maxRecDepth 100000 in
theorem read_ok {α : Type} (f : List UInt8 → Option (α × List UInt8)) (J : α → World → Prop) (z k : Nat) (cap : Array Value) (l : List UInt8) (A : Option Addr) (n c : Nat) (w : World) (h : SlX (· = z) w A n c (bv l)) (hzw : z < w.heap.size)
    (hcf : ∀ (args : Array Value) (w : World), (callFunc k args).run Try.prog w = .ok (.enter k args) w)
    (hJ : ∀ a w b v, IsT w b 24 → b ≠ z → J a w → J a (w.setCell ⟨b, 0, none⟩ v))
    (H : Hid (∀ wf p, KX (fun _ => False) w wf → w.heap.size ≤ p → RD (zo z w.heap.size) wf p l → Calls Try.prog k (#[.pointer (some ⟨p, 0, none⟩)] ++ cap) wf (FEnd f J z p l wf))) :
    Calls Try.prog 65 #[.slice A n c, .func (.func k) #[] cap] w (Took f J z l w) := by
  have hmf := hmfT
  have hl : l.length = n := by have := h.1.len; rwa [bv_length] at this
  obtain ⟨g, hg⟩ : ∃ g, w.heap.size = g := ⟨_, rfl⟩
  obtain ⟨w3, hw3⟩ : ∃ w3, (w.alloc (.cells #[.slice A n c] 23)).alloc (.cells #[.func (.func k) #[] cap] 98) = w3 := ⟨_, rfl⟩
  have hz3 : w3.heap.size = g + 1 + 1 := by rw [← hw3]; simp [hg]
  have hB3 : Below w.heap.size w w3 := by rw [← hw3]; exact nxa (nxa (Below.refl _ _) _) _
  have k0 : w3.heap[g]? = some (.cells #[.slice A n c] 23) := by
    rw [← hw3, Below.heap_alloc _ _ _ (by simp; omega), ← hg]; exact heap_alloc_new _ _
  have k1 : w3.heap[g + 1]? = some (.cells #[.func (.func k) #[] cap] 98) := by
    have := heap_alloc_new (w.alloc (.cells #[.slice A n c] 23)) (.cells #[.func (.func k) #[] cap] 98)
    rw [← hw3]
    rwa [show (w.alloc (.cells #[.slice A n c] 23)).heap.size = g + 1 by simp [hg]] at this
  have hBt : Below w3.heap.size w3 (twoW w3 11) := nxa (nxa (Below.refl _ w3) _) _
  have hzt : (twoW w3 11).heap.size = g + 1 + 1 + 1 + 1 := by unfold twoW; simp [hz3]
  have t0 := (hBt.block g (by omega)).trans k0
  have t1 := (hBt.block (g + 1) (by omega)).trans k1
  have hBw : Below w.heap.size w (twoW w3 11) := nx hB3 hBt
  obtain ⟨wf, hwf⟩ : ∃ wf, (twoW w3 11).alloc (.cells #[.slice A n c] 132) = wf := ⟨_, rfl⟩
  have hBf : Below w.heap.size w wf := by rw [← hwf]; exact nxa hBw _
  have kp : wf.heap[(twoW w3 11).heap.size]? = some (.cells #[.slice A n c] 132) := by rw [← hwf]; exact heap_alloc_new _ _
  have hRD : RD (zo z w.heap.size) wf (twoW w3 11).heap.size l := by
    refine ⟨A, c, by rw [hl]; exact cell_of kp 0, frz_of kp 0, ?_, ⟨_, _, kp⟩⟩
    rw [hl]
    exact (h.weak (Y := zo z w.heap.size) (fun i hi e => by rcases e with e | e; exact e; omega)).kx (Y := fun _ => False) (KX.of hBf) (fun _ e _ => e.elim)
  have hin := read1_ok f J z g (g + 1) k cap l A n c (twoW w3 11) (cell_of t0 0) (cell_of t1 0) hcf
    (Lib.hid (by rw [hwf]; exact H.out wf _ (KX.of hBf) (by omega) hRD))
  have htry := try_ok 102 #[.pointer (some ⟨g, 0, none⟩), .pointer (some ⟨g + 1, 0, none⟩)] 11 w3 (fun w' => ∃ a, full f l = some a ∧ J a w' ∧ KX (· = z) (twoW w3 11) w') (fun w' => full f l = none ∧ KX (· = z) (twoW w3 11) w') cf102
    (Lib.hid (hin.mono fun e w' h => by
      have hk : ∀ w', KX (· = z) (twoW w3 11) w' → TwoK w3 11 w' := fun w' h => ⟨(h.keep _ (by omega) (by omega)).trans (twoK_start w3 11).1, (h.keep _ (by omega) (by omega)).trans (twoK_start w3 11).2⟩
      rcases h with ⟨a, h1, rfl, h3, h4⟩ | ⟨h1, rfl, h3⟩
      · exact ⟨.inl ⟨rfl, a, h1, h3, h4⟩, hk _ h4⟩
      · exact ⟨.inr ⟨rfl, h1, h3⟩, hk _ h3⟩))
  have HT := Lib.hid htry; have HBW := Lib.hid hBw; have HZ := Lib.hid hz3; have HW3 := Lib.hid hw3; have HG := Lib.hid hg
  clear htry hin hB3 hBt t0 t1 hBw hRD k0 k1 hw3 hz3 kp hBf hwf hzt H h
  go_enter Try.func65, Try.ntmps65
  go_wp2_with fail
  rw [HW3.out]
  refine HT.out.mono ?_
  rintro e w4 ⟨w2, hK, ⟨rfl, ⟨a, ho, hj, hKW⟩, rfl⟩ | ⟨rfl, ⟨ho, hKW⟩, rfl⟩⟩
  · go_wp2_with fail
    go_ret
    have hb : w3.heap.size + 1 ≠ z := by have := HZ.out; have := HG.out; omega
    refine ⟨.inl ⟨a, ho, rfl, hJ a w2 _ _ ⟨_, _, hK.2⟩ hb hj⟩, ?_⟩
    exact ((KX.of (X := (· = z)) HBW.out).trans hKW).set _ _ (.inr (by show _ ≤ w3.heap.size + 1; have := HZ.out; have := HG.out; omega))
  · go_wp2_with fail
    go_ret
    refine ⟨.inr ⟨ho, rfl⟩, ?_⟩
    exact (((KX.of (X := (· = z)) HBW.out).trans hKW).alloc _).set _ _ (.inr (by show _ ≤ w3.heap.size + 1; have := HZ.out; have := HG.out; omega))
/-- what TakeTree's box holds -/
def JT (z : Nat) (t : List TN) (w : World) : Prop := ∃ v, w.cell? ⟨z, 0, none⟩ = some v ∧ TV t w v
set_option maxRecDepth 100000 in
theorem take1_ok (z p : Nat) (l : List UInt8) (w : World) (B : Nat) (hR : RD (zo z B) w p l) (hp : B ≤ p) (hzB : z < B) (hk : ∃ v, w.heap[z]? = some (.cells #[v] 49 (0, 0))) (hlen : Hid (l.length ≤ 1073741824)) :
    Calls Try.prog 66 #[.pointer (some ⟨p, 0, none⟩), .pointer (some ⟨z, 0, none⟩)] w (FEnd rTree (JT z) z p l w) := by
  obtain ⟨v0, hk⟩ := hk
  have H := Lib.hid (rtree_ok p (zo z B) l w hR (.inr hp) hlen)
  have HK := Lib.hid hk
  clear hR hk
  go_enter Try.func66, Try.ntmps66
  go_wp2_with fail
  refine H.out.mono ?_
  rintro e w2 (⟨t, r, v, f1, rfl, f3, f4, f5⟩ | ⟨f1, rfl, f3⟩)
  · have hz2 := (f5.keep z (Array.getElem?_eq_some_iff.1 HK.out).1 (by omega)).trans HK.out
    have c1 := cell_of hz2 0
    have z1 := frz_of hz2 0
    obtain ⟨A, c, rfl⟩ := f3.form
    go_wp2_with fail
    go_end0
    refine .inl ⟨t, r, zo z B, f1, rfl, ?_, ⟨_, World.cell?_setCell_same _ _ _ c1, f3.set (T := 49) ⟨_, _, hz2⟩ (by decide) (by decide) _⟩, ?_⟩
    · exact f4.kx ((KX.refl (· = z) w2).set ⟨z, 0, none⟩ _ (.inl rfl)) (fun i e _ => .inl e) (by omega)
    · exact (f5.mono (fun i e => .inr e)).set ⟨z, 0, none⟩ _ (.inl (.inl rfl))
  · simp [bodyPost]
    exact .inr ⟨f1, rfl, f3.mono (fun i e => .inr e)⟩
theorem cf66 (args : Array Value) (w : World) : (callFunc 66 args).run Try.prog w = .ok (.enter 66 args) w := by kernel_rfl
/-- how TakeTree ends -/
def TEnd (o : Option (List TN)) (w : World) (e : Ending) (w' : World) : Prop :=
  ((∃ t A c, o = some t ∧ e = .returned (.tuple #[.slice A t.length c, .int .i64 0]) ∧ Ts w' A t.length c t) ∨ (o = none ∧ e = .returned (.tuple #[.slice none 0 0, .int .i64 11]))) ∧ Below w.heap.size w w'
set_option maxRecDepth 100000 in
/-- codec.TakeTree -/
theorem taketree_ok (A : Option Addr) (n c : Nat) (l : List UInt8) (w : World) (h : Sl w A n c (bv l)) (hlen : Hid (l.length ≤ 1073741824)) :
    Calls Try.prog 36 #[.slice A n c] w (TEnd (full rTree l) w) := by
  have hmf := hmfT
  obtain ⟨z, hz⟩ : ∃ z, w.heap.size = z := ⟨_, rfl⟩
  obtain ⟨wz, hwz⟩ : ∃ wz, w.alloc (.cells #[.slice none 0 0] 49) = wz := ⟨_, rfl⟩
  have hBz : Below w.heap.size w wz := by rw [← hwz]; exact nxa (Below.refl _ _) _
  have hzz : wz.heap.size = z + 1 := by rw [← hwz]; simp [hz]
  have k0 : wz.heap[z]? = some (.cells #[.slice none 0 0] 49) := by rw [← hwz, ← hz]; exact heap_alloc_new _ _
  have hsl : SlX (· = z) wz A n c (bv l) := by
    refine ⟨h.below hBz, ?_⟩
    rcases h.lies with e | ⟨ad, rfl, _⟩
    · exact .inl e
    · by_cases hx : bv l = []
      · exact .inl hx
      · have := h.lies.blk rfl hx
        exact .inr ⟨ad, rfl, by omega⟩
  have HR := Lib.hid (read_ok rTree (JT z) z 66 #[.pointer (some ⟨z, 0, none⟩)] l A n c wz hsl (by omega) cf66
    (fun a w b v hb hbz hj => by
      obtain ⟨u, h1, h2⟩ := hj
      exact ⟨u, (World.cell?_setCell_other _ _ _ _ (by intro e; injection e with e; exact hbz e)).trans h1, h2.set (q := ⟨b, 0, none⟩) hb (by decide) (by decide) v⟩)
    (Lib.hid (fun wf p hK hp hRD => take1_ok z p l wf wz.heap.size hRD hp (by omega) ⟨_, (hK.keep z (by omega) (fun e => e)).trans k0⟩ hlen)))
  have HB := Lib.hid hBz; have HW := Lib.hid hwz; have HZ := Lib.hid hz; have HZZ := Lib.hid hzz
  clear hBz hwz k0 hzz hsl h
  go_enter Try.func36, Try.ntmps36
  go_wp2_with fail
  rw [HW.out]
  refine HR.out.mono ?_
  rintro e w2 ⟨⟨t, f1, rfl, ⟨v, c1, hT⟩⟩ | ⟨f1, rfl⟩, hK⟩
  · obtain ⟨B, d, rfl⟩ := hT.form
    go_wp2_with fail
    go_ret2
    exact ⟨.inl ⟨t, B, d, f1, rfl, hT.ts⟩, ((KX.of (X := fun _ => False) HB.out).next hK (fun i e => .inr (by have := HZ.out; omega))).below (Nat.le_refl _) (fun _ e => e.elim)⟩
  · go_wp2_with fail
    go_ret2
    exact ⟨.inr ⟨f1, rfl⟩, ((KX.of (X := fun _ => False) HB.out).next hK (fun i e => .inr (by have := HZ.out; omega))).below (Nat.le_refl _) (fun _ e => e.elim)⟩
end Go.Proofs.Ytjebmmmjjiomfaa
