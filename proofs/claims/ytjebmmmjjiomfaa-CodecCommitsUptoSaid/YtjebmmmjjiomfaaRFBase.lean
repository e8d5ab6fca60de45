/- The reference's reader in memory; the walks of its int, vector and more. -/
import Derived.Test.YtjebmmmjjiomfaaCREls
import Derived.Test.YtjebmmmjjiomfaaRTake
namespace Go.Proofs.Ytjebmmmjjiomfaa
open Go.RowKit

/-- what a reader f makes of a state -/
def Out {α : Type} (f : List UInt8 → Option (α × List UInt8)) (o : Option (List UInt8)) (a : α) (o' : Option (List UInt8)) : Prop :=
  o' = (o.bind f).map (·.2) ∧ ∀ a' r, o.bind f = some (a', r) → a' = a
theorem Out.some {α : Type} {f : List UInt8 → Option (α × List UInt8)} {l r : List UInt8} {a : α} (h : f l = Option.some (a, r)) : Out f (Option.some l) a (Option.some r) :=
  ⟨by rw [Option.bind_some, h]; rfl, fun a' r' e => by rw [Option.bind_some, h] at e; injection e with e; injection e with e _; exact e.symm⟩
theorem Out.bad {α : Type} {f : List UInt8 → Option (α × List UInt8)} {l : List UInt8} (a : α) (h : f l = none) : Out f (Option.some l) a none :=
  ⟨by rw [Option.bind_some, h]; rfl, fun a' r' e => by rw [Option.bind_some, h] at e; cases e⟩
theorem Out.none {α : Type} (f : List UInt8 → Option (α × List UInt8)) (a : α) : Out f Option.none a Option.none := ⟨rfl, fun a' r' e => by cases e⟩
/-- the reference's reader at block p: its state (none: bad), its bytes in no block of X -/
def RF (X : Nat → Prop) (w : World) (p : Nat) (o : Option (List UInt8)) : Prop :=
  ∃ A c l, w.cell? ⟨p, 0, none⟩ = some (.slice A l.length c) ∧ w.frozen? ⟨p, 0, none⟩ = false ∧ w.cell? ⟨p, 1, none⟩ = some (.bool o.isNone) ∧ w.frozen? ⟨p, 1, none⟩ = false ∧
    SlX X w A l.length c (bv l) ∧ l.length ≤ 1073741824 ∧ IsT w p 101 ∧ ∀ l', o = some l' → l' = l
theorem RF.bit {X : Nat → Prop} {w : World} {p : Nat} {o : Option (List UInt8)} (h : RF X w p o) : p < w.heap.size := by
  obtain ⟨A, c, l, h1, _⟩ := h; exact World.block_lt_of_cell? w _ h1
theorem RF.isT {X : Nat → Prop} {w : World} {p : Nat} {o : Option (List UInt8)} (h : RF X w p o) : IsT w p 101 := by
  obtain ⟨_, _, _, _, _, _, _, _, _, h, _⟩ := h; exact h
theorem RF.kx {X Y : Nat → Prop} {w w' : World} {p : Nat} {o : Option (List UInt8)} (h : RF X w p o) (k : KX Y w w') (hY : ∀ i, Y i → i < w.heap.size → X i) (hp : ¬ Y p) : RF X w' p o := by
  have hb := h.bit
  obtain ⟨A, c, l, h1, h2, h3, h4, h5, h6, h7, h8⟩ := h
  exact ⟨A, c, l, k.cell h1 hp, k.frz h2 hp hb, k.cell h3 hp, k.frz h4 hp hb, h5.kx k hY, h6, h7.kx k hp, h8⟩
theorem RF.weak {X Y : Nat → Prop} {w : World} {p : Nat} {o : Option (List UInt8)} (h : RF X w p o) (hY : ∀ i, i < w.heap.size → Y i → X i) : RF Y w p o := by
  obtain ⟨A, c, l, h1, h2, h3, h4, h5, h6⟩ := h
  exact ⟨A, c, l, h1, h2, h3, h4, h5.weak hY, h6⟩
theorem RF.below {X : Nat → Prop} {w w' : World} {p : Nat} {o : Option (List UInt8)} (h : RF X w p o) (k : Below w.heap.size w w') : RF X w' p o :=
  h.kx (Y := fun _ => False) (KX.of k) (fun _ e _ => e.elim) (fun e => e)
/-- the mark laid -/
theorem RF.mark {X : Nat → Prop} {w : World} {p : Nat} {o o' : Option (List UInt8)} (h : RF X w p o) (hX : X p) (ho : o' = none ∨ o' = o) : RF X (w.setCell ⟨p, 1, none⟩ (.bool o'.isNone)) p o' := by
  obtain ⟨A, c, l, h1, h2, h3, h4, h5, h6, h7, h8⟩ := h
  refine ⟨A, c, l, ?_, ?_, ?_, ?_, ?_, h6, h7.set _ _, ?_⟩
  · rw [World.cell?_setCell_other _ _ _ _ (by simp)]; exact h1
  · rw [World.frozen?_setCell]; exact h2
  · exact World.cell?_setCell_same _ _ _ h3
  · rw [World.frozen?_setCell]; exact h4
  · exact h5.kx ((KX.refl (· = p) w).set ⟨p, 1, none⟩ _ (.inl rfl)) (fun i e _ => by rw [e]; exact hX)
  · intro l' e
    rcases ho with rfl | rfl
    · cases e
    · exact h8 l' e
/-- the rest laid -/
theorem RF.rest {X : Nat → Prop} {w : World} {p c k : Nat} {A : Option Addr} {l : List UInt8} (h1 : w.cell? ⟨p, 0, none⟩ = some (.slice A l.length c)) (h2 : w.frozen? ⟨p, 0, none⟩ = false) (h3 : w.cell? ⟨p, 1, none⟩ = some (.bool false)) (h4 : w.frozen? ⟨p, 1, none⟩ = false)
    (h5 : SlX X w A l.length c (bv l)) (h6 : l.length ≤ 1073741824) (h7 : IsT w p 101) (hX : X p) (hk : k ≤ l.length) :
    RF X (w.setCell ⟨p, 0, none⟩ (.slice (if c = k then A else A.map (·.add k)) (l.length - k) (c - k))) p (some (l.drop k)) := by
  refine ⟨if c = k then A else A.map (·.add k), c - k, l.drop k, ?_, ?_, ?_, ?_, ?_, by rw [List.length_drop]; omega, h7.set _ _, fun l' e => by injection e with e; exact e.symm⟩
  · rw [List.length_drop]; exact World.cell?_setCell_same _ _ _ h1
  · rw [World.frozen?_setCell]; exact h2
  · rw [World.cell?_setCell_other _ _ _ _ (by simp)]; exact h3
  · rw [World.frozen?_setCell]; exact h4
  · rw [List.length_drop]
    exact (h5.sub hk).kx ((KX.refl (· = p) w).set ⟨p, 0, none⟩ _ (.inl rfl)) (fun i e _ => by rw [e]; exact hX)
/-- how the reference's reading ends -/
def RQ {α : Type} (f : List UInt8 → Option (α × List UInt8)) (V : α → World → Value → Prop) (X : Nat → Prop) (p : Nat) (o : Option (List UInt8)) (w : World) (e : Ending) (w' : World) : Prop :=
  ∃ a v o', e = .returned v ∧ V a w' v ∧ Out f o a o' ∧ RF X w' p o' ∧ KX (· = p) w w'
def IV (a : Int) (_ : World) (v : Value) : Prop := v = .int .i64 a
set_option maxRecDepth 100000 in
set_option maxHeartbeats 2000000 in
theorem rfint_ok (p : Nat) (X : Nat → Prop) (o : Option (List UInt8)) (w : World) (h : RF X w p o) (hX : X p) :
    Calls Try.prog 76 #[.pointer (some ⟨p, 0, none⟩)] w (RQ rI IV X p o w) := by
  have H := Lib.hid h
  have hbit := h.bit
  have HX := Lib.hid hX
  obtain ⟨A, c, l, h1, h2, h3, h4, h5, h6, h7, h8⟩ := h
  have HC := Lib.hid (rtakeInt_any A l.length c l w h5.1)
  have hcap := h5.1.cap; have htop := h5.1.top
  have hbad : ∀ w1, Below w.heap.size w w1 → (∀ a, Out rI o a none) → RQ rI IV X p o w (.returned (.int .i64 0)) (w1.setCell ⟨p, 1, none⟩ (.bool true)) := fun w1 hB ho =>
    ⟨0, _, none, rfl, rfl, ho 0, RF.mark (o' := none) (h := H.out.below hB) HX.out (.inl rfl), (KX.of hB).set ⟨p, 1, none⟩ _ (.inl rfl)⟩
  have HBAD := Lib.hid hbad
  have H5 := Lib.hid h5; have H7 := Lib.hid h7; have H8 := Lib.hid h8
  obtain ⟨q, hq⟩ : ∃ q, (takeI l).2.2 = q := ⟨_, rfl⟩
  obtain ⟨k, hk⟩ : ∃ k, (takeI l).2.1 = k := ⟨_, rfl⟩
  obtain ⟨m, hm⟩ : ∃ m, (takeI l).1 = m := ⟨_, rfl⟩
  rw [hq, hk, hm] at HC
  have HQ := Lib.hid hq; have HK := Lib.hid hk; have HM := Lib.hid hm
  clear h5 h7 h8 hbad hq hk hm hX
  rcases o with _ | l0
  · have h3' : w.cell? ⟨p, 1, none⟩ = some (.bool true) := h3
    clear h3
    go_enter Try.func76, Try.ntmps76
    go_wp2_with (go_at_call 107; refine HC.out.mono ?_; rintro e w1 ⟨rfl, hB⟩; have b1 := (hB.cell (p := ⟨p, 0, none⟩) hbit).trans h1; have b2 := (hB.frozen (p := ⟨p, 0, none⟩) hbit).trans h2; have b3 := (hB.cell (p := ⟨p, 1, none⟩) hbit).trans h3'; have b4 := (hB.frozen (p := ⟨p, 1, none⟩) hbit).trans h4)
    go_ret
    exact HBAD.out w1 hB (fun a => Out.none _ a)
  · have hl0 := H8.out l0 rfl
    subst hl0
    have h3' : w.cell? ⟨p, 1, none⟩ = some (.bool false) := h3
    clear h3
    by_cases hq0 : q = 0
    · subst hq0
      have hri : rI l0 = some ((m : Int), l0.drop k) := by unfold rI; rw [if_pos HQ.out, HK.out, HM.out]
      have hrest := takeI_rest HQ.out
      rw [HK.out] at hrest
      have HRI := Lib.hid hri
      have hk1 := hrest.1; have hk2 := hrest.2.1
      obtain ⟨bd, rfl⟩ := RD.pos H5.out (by omega)
      clear hri hrest HBAD
      go_enter Try.func76, Try.ntmps76
      go_wp2_with (go_at_call 107; refine HC.out.mono ?_; rintro e w1 ⟨rfl, hB⟩; have b1 := (hB.cell (p := ⟨p, 0, none⟩) hbit).trans h1; have b2 := (hB.frozen (p := ⟨p, 0, none⟩) hbit).trans h2; have b3 := (hB.cell (p := ⟨p, 1, none⟩) hbit).trans h3'; have b4 := (hB.frozen (p := ⟨p, 1, none⟩) hbit).trans h4)
      all_goals
        go_ret
        have hr := RF.rest (A := some bd) (k := k) b1 b2 b3 b4 (H5.out.kx (Y := fun _ => False) (KX.of hB) (fun _ e _ => e.elim)) h6 (H7.out.kx (X := fun _ => False) (KX.of hB) (fun e => e)) HX.out hk2
        refine ⟨(m : Int), _, some (l0.drop k), rfl, rfl, Out.some HRI.out, ?_, (KX.of hB).set ⟨p, 0, none⟩ _ (.inl rfl)⟩
        first
          | (rw [if_neg (by assumption)] at hr; exact hr)
          | (rw [if_pos (by assumption), show c - k = 0 by omega] at hr; exact hr)
    · have hri : rI l0 = none := by unfold rI; rw [if_neg (by rw [HQ.out]; exact hq0)]
      have HRI := Lib.hid hri
      have t1 : (q != 0) = true := by simpa using hq0
      have t2 : ((q : Int) != 0) = true := by rw [bne_iff_ne]; omega
      clear hri hq0
      go_enter Try.func76, Try.ntmps76
      go_wp2_with (go_at_call 107; refine HC.out.mono ?_; rintro e w1 ⟨rfl, hB⟩; have b1 := (hB.cell (p := ⟨p, 0, none⟩) hbit).trans h1; have b2 := (hB.frozen (p := ⟨p, 0, none⟩) hbit).trans h2; have b3 := (hB.cell (p := ⟨p, 1, none⟩) hbit).trans h3'; have b4 := (hB.frozen (p := ⟨p, 1, none⟩) hbit).trans h4)
      go_ret
      exact HBAD.out w1 hB (fun a => Out.bad a HRI.out)
/-- how the reference's vector ends: a reader of its own -/
def RVec (X : Nat → Prop) (p : Nat) (o : Option (List UInt8)) (w : World) (e : Ending) (w' : World) : Prop :=
  ∃ q x o', e = .returned (.pointer (some ⟨q, 0, none⟩)) ∧ w.heap.size ≤ q ∧ q + 1 = w'.heap.size ∧ Out rV o x o' ∧ (o' = none → x = []) ∧ RF X w' p o' ∧ RF (fun b => b < w.heap.size ∨ q ≤ b) w' q (some x) ∧ KX (· = p) w w' ∧ x.length ≤ 1073741824
theorem RF.new (X : Nat → Prop) (w : World) : RF X (w.alloc (.cells #[.slice none 0 0, .bool false] 101)) w.heap.size (some []) := by
  have e := heap_alloc_new w (.cells #[.slice none 0 0, .bool false] 101)
  exact ⟨none, 0, [], cell_of e 0, frz_of e 0, cell_of e 1, frz_of e 1, ⟨Sl.none _, .inl rfl⟩, by simp, ⟨_, _, e⟩, fun l' h => by injection h with h; exact h.symm⟩
set_option maxRecDepth 100000 in
set_option maxHeartbeats 2000000 in
theorem rfvec_ok (p : Nat) (X : Nat → Prop) (o : Option (List UInt8)) (w : World) (h : RF X w p o) (hX : X p) :
    Calls Try.prog 87 #[.pointer (some ⟨p, 0, none⟩)] w (RVec X p o w) := by
  have H := Lib.hid h
  have hbit := h.bit
  have HX := Lib.hid hX
  obtain ⟨A, c, l, h1, h2, h3, h4, h5, h6, h7, h8⟩ := h
  have HC := Lib.hid (rtakeB_any A l.length c l w h5.1 h6)
  have hcap := h5.1.cap; have htop := h5.1.top
  have hbad : ∀ w1, Below w.heap.size w w1 → (∀ a, Out rV o a none) → RVec X p o w (.returned (.pointer (some ⟨w1.heap.size, 0, none⟩))) ((w1.setCell ⟨p, 1, none⟩ (.bool true)).alloc (.cells #[.slice none 0 0, .bool false] 101)) := fun w1 hB ho => by
    have hm : RF X (w1.setCell ⟨p, 1, none⟩ (.bool true)) p none := RF.mark (o' := none) (h := H.out.below hB) HX.out (.inl rfl)
    have hz : (w1.setCell ⟨p, 1, none⟩ (.bool true)).heap.size = w1.heap.size := by simp [World.setCell]
    have hn := RF.new (fun b => b < w.heap.size ∨ w1.heap.size ≤ b) (w1.setCell ⟨p, 1, none⟩ (.bool true))
    rw [hz] at hn
    exact ⟨w1.heap.size, [], none, rfl, hB.size, by simp [World.setCell], ho [], fun _ => rfl, hm.below (nxa (Below.refl _ _) _), hn, ((KX.of (X := (· = p)) hB).set ⟨p, 1, none⟩ _ (.inl rfl)).alloc _, by simp⟩
  have HBAD := Lib.hid hbad
  have H5 := Lib.hid h5; have H7 := Lib.hid h7; have H8 := Lib.hid h8
  unfold TB at HC
  obtain ⟨q, hq⟩ : ∃ q, (takeB l).2.2 = q := ⟨_, rfl⟩
  obtain ⟨k, hk⟩ : ∃ k, (takeB l).2.1 = k := ⟨_, rfl⟩
  obtain ⟨m, hm⟩ : ∃ m, (takeB l).1 = m := ⟨_, rfl⟩
  rw [hq, hk, hm] at HC
  have HQ := Lib.hid hq; have HK := Lib.hid hk; have HM := Lib.hid hm
  clear h5 h7 h8 hbad hq hk hm hX
  rcases o with _ | l0
  · have h3' : w.cell? ⟨p, 1, none⟩ = some (.bool true) := h3
    clear h3
    go_enter Try.func87, Try.ntmps87
    go_wp2_with (go_at_call 114; refine HC.out.mono ?_; rintro e w1 ⟨B, d, rfl, hO, hB⟩; have b1 := (hB.cell (p := ⟨p, 0, none⟩) hbit).trans h1; have b2 := (hB.frozen (p := ⟨p, 0, none⟩) hbit).trans h2; have b3 := (hB.cell (p := ⟨p, 1, none⟩) hbit).trans h3'; have b4 := (hB.frozen (p := ⟨p, 1, none⟩) hbit).trans h4)
    go_ret
    exact HBAD.out w1 hB (fun a => Out.none _ a)
  · have hl0 := H8.out l0 rfl
    subst hl0
    have h3' : w.cell? ⟨p, 1, none⟩ = some (.bool false) := h3
    clear h3
    by_cases hq0 : q = 0
    · subst hq0
      have hri : rV l0 = some (m, l0.drop k) := by unfold rV; rw [if_pos HQ.out, HK.out, HM.out]
      have hrest := takeB_rest HQ.out
      rw [HK.out, HM.out] at hrest
      have HRI := Lib.hid hri
      have hk1 := hrest.1; have hk2 := hrest.2.1; have hk3 := hrest.2.2
      obtain ⟨bd, rfl⟩ := RD.pos H5.out (by omega)
      clear hri hrest HBAD
      go_enter Try.func87, Try.ntmps87
      go_wp2_with (go_at_call 114; refine HC.out.mono ?_; rintro e w1 ⟨B, d, rfl, hO, hB⟩; have b1 := (hB.cell (p := ⟨p, 0, none⟩) hbit).trans h1; have b2 := (hB.frozen (p := ⟨p, 0, none⟩) hbit).trans h2; have b3 := (hB.cell (p := ⟨p, 1, none⟩) hbit).trans h3'; have b4 := (hB.frozen (p := ⟨p, 1, none⟩) hbit).trans h4)
      all_goals
        go_ret
        have hr := RF.rest (A := some bd) (k := k) b1 b2 b3 b4 (H5.out.kx (Y := fun _ => False) (KX.of hB) (fun _ e _ => e.elim)) h6 (H7.out.kx (X := fun _ => False) (KX.of hB) (fun e => e)) HX.out hk2
        have hr' : RF X (w1.setCell ⟨p, 0, none⟩ (.slice (if c = k then some bd else some (bd.add k)) (l0.length - k) (c - k))) p (some (l0.drop k)) := hr
        have hfin : ∀ E cc, (Value.slice (if c = k then some bd else some (bd.add k)) (l0.length - k) (c - k)) = .slice E (l0.length - k) cc →
            RVec X p (some l0) w (.returned (.pointer (some ⟨w1.heap.size, 0, none⟩))) ((w1.setCell ⟨p, 0, none⟩ (.slice E (l0.length - k) cc)).alloc (.cells #[.slice B m.length d, .bool false] 101)) := fun E cc hE => by
          rw [hE] at hr'
          have hz : (w1.setCell ⟨p, 0, none⟩ (.slice E (l0.length - k) cc)).heap.size = w1.heap.size := by simp [World.setCell]
          have e := heap_alloc_new (w1.setCell ⟨p, 0, none⟩ (.slice E (l0.length - k) cc)) (.cells #[.slice B m.length d, .bool false] 101)
          rw [hz] at e
          have hxs : SlX (fun b => b < w.heap.size ∨ w1.heap.size ≤ b) w1 B m.length d (bv m) := by
            refine ⟨hO.sl, ?_⟩
            by_cases hx0 : 0 < m.length
            · obtain ⟨g, rfl, g1, g2⟩ := hO.form hx0
              exact .inr ⟨_, rfl, by show ¬ (g < _ ∨ _ ≤ g); omega⟩
            · have : m = [] := List.eq_nil_of_length_eq_zero (by omega)
              exact .inl (by rw [this]; rfl)
          have hx3 := hxs.kx (((KX.refl (· = p) w1).set ⟨p, 0, none⟩ (.slice E (l0.length - k) cc) (.inl rfl)).alloc (.cells #[.slice B m.length d, .bool false] 101)) (fun i e _ => by subst e; exact .inl hbit)
          exact ⟨w1.heap.size, m, some (l0.drop k), rfl, hB.size, by simp [World.setCell], Out.some HRI.out, (fun e => by cases e), hr'.below (nxa (Below.refl _ _) _),
            ⟨B, d, m, cell_of e 0, frz_of e 0, cell_of e 1, frz_of e 1, hx3, by omega, ⟨_, _, e⟩, fun l' h => by injection h with h; exact h.symm⟩, ((KX.of (X := (· = p)) hB).set ⟨p, 0, none⟩ _ (.inl rfl)).alloc _, by omega⟩
        first
          | exact hfin _ _ (by rw [if_neg (by assumption)])
          | exact hfin _ _ (by rw [if_pos (by assumption), show c - k = 0 by omega])
    · have hri : rV l0 = none := by unfold rV; rw [if_neg (by rw [HQ.out]; exact hq0)]
      have HRI := Lib.hid hri
      have t1 : (q != 0) = true := by simpa using hq0
      have t2 : ((q : Int) != 0) = true := by rw [bne_iff_ne]; omega
      clear hri hq0
      go_enter Try.func87, Try.ntmps87
      go_wp2_with (go_at_call 114; refine HC.out.mono ?_; rintro e w1 ⟨B, d, rfl, hO, hB⟩; have b1 := (hB.cell (p := ⟨p, 0, none⟩) hbit).trans h1; have b2 := (hB.frozen (p := ⟨p, 0, none⟩) hbit).trans h2; have b3 := (hB.cell (p := ⟨p, 1, none⟩) hbit).trans h3'; have b4 := (hB.frozen (p := ⟨p, 1, none⟩) hbit).trans h4)
      go_ret
      exact HBAD.out w1 hB (fun a => Out.bad a HRI.out)
/-- more to read? -/
def moreO : Option (List UInt8) → Bool
  | none => false
  | some l => decide (0 < l.length)
theorem rfmore_ok (p : Nat) (X : Nat → Prop) (o : Option (List UInt8)) (w : World) (h : RF X w p o) :
    Calls Try.prog 88 #[.pointer (some ⟨p, 0, none⟩)] w fun e w' => e = .returned (.bool (moreO o)) ∧ w = w' := by
  obtain ⟨A, c, l, h1, h2, h3, h4, h5, h6, h7, h8⟩ := h
  have H8 := Lib.hid h8
  clear h5 h7 h8
  rcases o with _ | l0
  · have h3' : w.cell? ⟨p, 1, none⟩ = some (.bool true) := h3
    clear h3
    go_enter Try.func88, Try.ntmps88
    go_wp2_with fail
    go_ret
    exact ⟨rfl, rfl⟩
  · have hl0 := H8.out l0 rfl
    subst hl0
    have h3' : w.cell? ⟨p, 1, none⟩ = some (.bool false) := h3
    clear h3
    unfold moreO
    go_enter Try.func88, Try.ntmps88
    go_wp2_with fail
    go_ret
    exact ⟨by simp, rfl⟩
/-- all read, as it must be? -/
def doneO (o : Option (List UInt8)) : Bool := decide (o = some [])
theorem rfdone_ok (p : Nat) (X : Nat → Prop) (o : Option (List UInt8)) (w : World) (h : RF X w p o) :
    Calls Try.prog 69 #[.pointer (some ⟨p, 0, none⟩)] w fun e w' => e = .returned (.bool (doneO o)) ∧ w = w' := by
  obtain ⟨A, c, l, h1, h2, h3, h4, h5, h6, h7, h8⟩ := h
  have H8 := Lib.hid h8
  clear h5 h7 h8
  rcases o with _ | l0
  · have h3' : w.cell? ⟨p, 1, none⟩ = some (.bool true) := h3
    clear h3
    go_enter Try.func69, Try.ntmps69
    go_wp2_with fail
    go_ret
    exact ⟨rfl, rfl⟩
  · have hl0 := H8.out l0 rfl
    subst hl0
    have h3' : w.cell? ⟨p, 1, none⟩ = some (.bool false) := h3
    clear h3
    rcases l0 with _ | ⟨b, l0⟩
    · go_enter Try.func69, Try.ntmps69
      go_wp2_with fail
      go_ret
      exact ⟨rfl, rfl⟩
    · have t : ((((b :: l0).length : Nat) : Int) == 0) = false := by rw [beq_eq_false_iff_ne]; simp; omega
      have HD : Hid (doneO (some (b :: l0)) = false) := Lib.hid (by simp [doneO])
      obtain ⟨n, hn⟩ : ∃ n, (b :: l0).length = n := ⟨_, rfl⟩
      rw [hn] at t h1
      clear hn
      rw [HD.out]
      go_enter Try.func69, Try.ntmps69
      go_wp2_with fail
      go_ret
      exact ⟨rfl, rfl⟩
end Go.Proofs.Ytjebmmmjjiomfaa
