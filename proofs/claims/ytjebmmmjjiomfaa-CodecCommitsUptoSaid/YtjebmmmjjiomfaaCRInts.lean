/- The walk of a reader's ints. -/
import Derived.Test.YtjebmmmjjiomfaaCRd
import Derived.RegionTactic
namespace Go.Proofs.Ytjebmmmjjiomfaa
open Go.RowKit

theorem rIs_snoc : ∀ {k : Nat} {l r r2 : List UInt8} {ns : List Int} {z : Int}, rIs k l = some (ns, r) → rI r = some (z, r2) → rIs (k + 1) l = some (ns ++ [z], r2)
  | 0, l, r, r2, ns, z, h, h2 => by
    injection h with h; injection h with h1 h3; subst h1 h3
    rw [rIs, h2]; rfl
  | k + 1, l, r, r2, ns, z, h, h2 => by
    obtain ⟨x, h1, h3⟩ := bind2 h
    obtain ⟨y, h4, h5⟩ := bind2 h3
    injection h5 with h5; injection h5 with h5 h6; subst h5 h6
    have := rIs_snoc (k := k) (r := y.2) (ns := y.1) h4 h2
    rw [rIs, h1, Option.bind_some, this]; rfl
theorem rIs_stop : ∀ {k n : Nat} {l r : List UInt8} {ns : List Int}, rIs k l = some (ns, r) → rI r = none → k < n → rIs n l = none
  | 0, n, l, r, ns, h, h2, hn => by
    injection h with h; injection h with h1 h3; subst h1 h3
    obtain ⟨m, rfl⟩ : ∃ m, n = m + 1 := ⟨n - 1, by omega⟩
    rw [rIs, h2]; rfl
  | k + 1, n, l, r, ns, h, h2, hn => by
    obtain ⟨m, rfl⟩ : ∃ m, n = m + 1 := ⟨n - 1, by omega⟩
    obtain ⟨x, h1, h3⟩ := bind2 h
    obtain ⟨y, h4, h5⟩ := bind2 h3
    injection h5 with h5; injection h5 with h5 h6; subst h5 h6
    rw [rIs, h1, Option.bind_some, rIs_stop (r := y.2) (ns := y.1) h4 h2 (by omega)]; rfl
/-- what ints leaves: all but its targets and its reader -/
structure CK (T : List Addr) (p : Nat) (w w' : World) : Prop where
  kx : KX (fun b => b = p ∨ ∃ t ∈ T, t.block = b) w w'
  size : w'.heap.size = w.heap.size
  cell : ∀ q : Addr, q.block ≠ p → q ∉ T → w'.cell? q = w.cell? q
  frz : ∀ q, w'.frozen? q = w.frozen? q
  typ : ∀ b t, IsT w b t → IsT w' b t
theorem CK.refl (T : List Addr) (p : Nat) (w : World) : CK T p w w := ⟨KX.refl _ _, rfl, fun _ _ _ => rfl, fun _ => rfl, fun _ _ h => h⟩
theorem CK.step {T : List Addr} {p : Nat} {w wr : World} (h : CK T p w wr) {t : Addr} (ht : t ∈ T) (v u : Value) : CK T p w ((wr.setCell t v).setCell ⟨p, 0, none⟩ u).drew := by
  refine ⟨((h.kx.set t v (.inl (.inr ⟨t, ht, rfl⟩))).set ⟨p, 0, none⟩ u (.inl (.inl rfl))).drew, ?_, ?_, ?_, ?_⟩
  · have := h.size
    show ((wr.setCell t v).setCell ⟨p, 0, none⟩ u).heap.size = _
    simp [World.setCell, this]
  · intro q hq hT
    show ((wr.setCell t v).setCell ⟨p, 0, none⟩ u).cell? q = _
    rw [World.cell?_setCell_other _ _ _ _ (by intro e; subst e; exact hq rfl), World.cell?_setCell_other _ _ _ _ (by intro e; subst e; exact hT ht)]
    exact h.cell q hq hT
  · intro q
    show ((wr.setCell t v).setCell ⟨p, 0, none⟩ u).frozen? q = _
    rw [World.frozen?_setCell, World.frozen?_setCell]; exact h.frz q
  · intro b ty hb
    exact ((h.typ b ty hb).set t v).set ⟨p, 0, none⟩ u
/-- the targets hold what was read -/
def VK (T : List Addr) (ns : List Int) (w : World) : Prop := ∀ (i : Nat) t z, T[i]? = some t → ns[i]? = some z → w.cell? t = some (.int .i64 z)
theorem RD.drew {X : Nat → Prop} {w : World} {p : Nat} {l : List UInt8} (h : RD X w p l) : RD X w.drew p l :=
  h.kx ((KX.refl (fun _ => False) w).drew) (fun _ e _ => e.elim) (fun e => e)
theorem RD.pos {X : Nat → Prop} {w : World} {l : List UInt8} {A : Option Addr} {c : Nat} (h3 : SlX X w A l.length c (bv l)) (hl : 0 < l.length) : ∃ ad, A = some ad := by
  rcases h3.2 with e | ⟨ad, rfl, _⟩
  · have := congrArg List.length e; simp at this; subst this; simp at hl
  · exact ⟨ad, rfl⟩
set_option maxRecDepth 100000 in
set_option maxHeartbeats 2000000 in
theorem rints_ok (p : Nat) (X : Nat → Prop) (l : List UInt8) (A : Option Addr) (n c : Nat) (ts : List Addr) (w : World) (h : RD X w p l) (hX : X p) (hs : SlX (fun b => b = p ∨ ∃ t ∈ ts, t.block = b) w A n c (ts.map fun q => .pointer (some q)))
    (ht : Hid (∀ t ∈ ts, X t.block ∧ t.block ≠ p ∧ (∃ z, w.cell? t = some (.int .i64 z)) ∧ w.frozen? t = false)) (hnd : Hid ts.Nodup) :
    Calls Try.prog 75 #[.pointer (some ⟨p, 0, none⟩), .slice A n c] w fun e w' =>
      (∃ ns r, rIs n l = some (ns, r) ∧ e = .returned (.tuple #[]) ∧ RD X w' p r ∧ CK ts p w w' ∧ VK ts ns w') ∨ (rIs n l = none ∧ e = .panicked [badE] ∧ CK ts p w w') := by
  have htop := hs.1.top; have hcap := hs.1.cap; unfold maxLen at htop
  have Hl := Lib.hid (show ts.length = n by have := hs.1.len; simpa using this)
  have HS := Lib.hid hs; have H := Lib.hid h; have HX := Lib.hid hX
  clear hs h hX
  go_enter Try.func75, Try.ntmps75
  go_wp2_with fail
  go_loopw [11] (fun i wr => ∃ (k : Nat) (ns : List Int) (r : List UInt8), k ≤ n ∧ i = .int .i64 (k : Int) ∧ Hid (rIs k l = some (ns, r)) ∧ RD X wr p r ∧ Hid (CK ts p w wr) ∧ Hid (∀ i t z, i < k → ts[i]? = some t → ns[i]? = some z → wr.cell? t = some (.int .i64 z)) ∧ Hid (∀ t ∈ ts, ∃ z, wr.cell? t = some (.int .i64 z))) (fun i _ => n - (intOf i).toNat)
  case atStart => exact ⟨0, [], l, Nat.zero_le _, rfl, Lib.hid rfl, H.out, Lib.hid (CK.refl _ _ _), Lib.hid fun i t z hi => absurd hi (Nat.not_lt_zero _), Lib.hid fun t h => (ht.out t h).2.2.1⟩
  case round =>
    obtain ⟨k, ns, r, hk, rfl, HA, hR, HC, HV, HZ⟩ := hrel
    by_cases hlt : k < n
    · have hsw := HS.out.kx HC.out.kx (fun i e _ => e)
      obtain ⟨ad, u, rfl, hu, hcu⟩ := hsw.1.at_ hlt
      obtain ⟨t, ht'⟩ : ∃ t, ts[k]? = some t := ⟨_, List.getElem?_eq_getElem (by rw [Hl.out]; exact hlt)⟩
      rw [List.getElem?_map, ht'] at hu
      injection hu with hu
      subst hu
      have HT := Lib.hid ht'
      have hzf : wr.frozen? t = false := (HC.out.frz t).trans (ht.out t (List.mem_of_getElem? ht')).2.2.2
      obtain ⟨z1, hz1⟩ := HZ.out t (List.mem_of_getElem? ht')
      obtain ⟨B, d, h1, h2, h3, h4⟩ := hR
      have i1 : (k : Int) < (n : Int) := by omega
      have HI := Lib.hid (takeInt_any B r.length d r wr h3.1)
      have H3 := Lib.hid h3; have H4 := Lib.hid h4
      have hrd := h3.1.cap; have hdt := h3.1.top
      clear h3 h4 hsw ht'
      rcases hri : rI r with _ | ⟨z, r2⟩
      · have hne := Lib.hid (rI_none hri)
        have HRI := Lib.hid hri
        clear hri
        obtain ⟨q, hq⟩ : ∃ q, (takeI r).2.2 = q := ⟨_, rfl⟩
        rw [hq] at HI hne
        have t1 : ((q : Int) == 0) = false := by rw [beq_eq_false_iff_ne]; have := hne.out; omega
        clear hq
        go_wp2_with (first
          | (go_at_call 17; refine HI.out.mono ?_; rintro e w1 ⟨rfl, rfl⟩)
          | (go_at_call 85; refine (must_no _).mono ?_; rintro e w1 ⟨rfl, rfl⟩))
        simp +zetaDelta [bodyPost]
        exact ⟨rIs_stop HA.out HRI.out hlt, HC.out⟩
      · obtain ⟨h0, hz, hr2⟩ := rI_some hri
        have hrest := takeI_rest h0
        have HRI := Lib.hid hri
        clear hri
        obtain ⟨q, hq⟩ : ∃ q, (takeI r).2.1 = q := ⟨_, rfl⟩
        obtain ⟨m, hm⟩ : ∃ m, (takeI r).1 = m := ⟨_, rfl⟩
        rw [hq] at hrest hr2
        rw [hm] at hz
        rw [hq, hm, h0] at HI
        have HR2 := Lib.hid hr2; have HZ2 := Lib.hid hz
        have hq1 := hrest.1; have hq2 := hrest.2.1
        obtain ⟨bd, rfl⟩ := RD.pos H3.out (by omega)
        clear h0 hr2 hz hq hm hrest
        go_wp2_with (first
          | (go_at_call 17; refine HI.out.mono ?_; rintro e w1 ⟨rfl, rfl⟩)
          | (go_at_call 85; refine (must_ok _).mono ?_; rintro e w1 ⟨rfl, rfl⟩))
        have hcp : ∀ v, (wr.setCell t v).cell? ⟨p, 0, none⟩ = some (.slice (some bd) r.length d) := fun v => (World.cell?_setCell_other _ _ _ _ (by intro e; exact (ht.out t (List.mem_of_getElem? HT.out)).2.1 (by rw [e]))).trans h1
        go_region
        obtain ⟨w2, hw2⟩ : ∃ w2, ((wr.setCell t (.int .i64 (m : Int))).setCell ⟨p, 0, none⟩ (.slice (if d = q then some bd else some (bd.add q)) (r.length - q) (d - q))).drew = w2 := ⟨_, rfl⟩
        have hCK : CK ts p w w2 := by rw [← hw2]; exact HC.out.step (List.mem_of_getElem? HT.out) _ _
        have hct : w2.cell? t = some (.int .i64 (m : Int)) := by
          rw [← hw2]
          show (((wr.setCell t (.int .i64 (m : Int))).setCell ⟨p, 0, none⟩ _)).cell? t = _
          rw [World.cell?_setCell_other _ _ _ _ (by intro e; exact (ht.out t (List.mem_of_getElem? HT.out)).2.1 (by rw [← e]))]
          exact World.cell?_setCell_same _ _ _ hz1
        have hco : ∀ t2 ∈ ts, t2 ≠ t → w2.cell? t2 = wr.cell? t2 := fun t2 h2 hne => by
          rw [← hw2]
          show (((wr.setCell t (.int .i64 (m : Int))).setCell ⟨p, 0, none⟩ _)).cell? t2 = _
          rw [World.cell?_setCell_other _ _ _ _ (by intro e; exact (ht.out t2 h2).2.1 (by rw [← e])), World.cell?_setCell_other _ _ _ _ (fun e => hne e.symm)]
        have hRD : RD X w2 p r2 := by
          rw [← hw2, HR2.out]
          have hX' : ∀ i, i = t.block → i < wr.heap.size → X i := fun i e _ => by rw [e]; exact (ht.out t (List.mem_of_getElem? HT.out)).1
          have e := RD.rest (A := some bd) (hcp (.int .i64 (m : Int))) ((World.frozen?_setCell _ _ _ _).trans h2) (H3.out.kx ((KX.refl (· = t.block) wr).set t _ (.inl rfl)) hX') (H4.out.set _ _) HX.out hq2
          exact e.drew
        rw [hw2]
        clear hw2 hcp h1 h2 H3 H4 HI hcu
        go_wp2_with fail
        go_roundw
        case rel =>
          refine ⟨k + 1, ns ++ [z], r2, by omega, by go_num, Lib.hid (rIs_snoc HA.out HRI.out), hRD, Lib.hid hCK, Lib.hid ?_, Lib.hid ?_⟩
          · have hnl : ns.length = k := (rIs_less HA.out).2
            intro i t2 z2 hi e1 e2
            by_cases hik : i = k
            · subst hik
              rw [HT.out] at e1
              injection e1 with e1
              subst e1
              rw [List.getElem?_append_right (by omega), hnl] at e2
              simp at e2
              subst e2
              rw [hct, HZ2.out]
            · rw [hco t2 (List.mem_of_getElem? e1) (fun e => hik (by
                subst e
                have l1 := (List.getElem?_eq_some_iff.1 e1).1
                exact (List.getElem?_inj l1 hnd.out).1 (e1.trans HT.out.symm)))]
              exact HV.out i t2 z2 (by omega) e1 (by rwa [List.getElem?_append_left (by omega)] at e2)
          · intro t2 h2
            by_cases e : t2 = t
            · subst e; exact ⟨_, hct⟩
            · rw [hco t2 h2 e]; exact HZ.out t2 h2
        case measure => simp [intOf]; omega
    · obtain rfl : k = n := by omega
      go_wp2_with fail
      go_end0
      exact .inl ⟨ns, r, HA.out, rfl, hR, HC.out, fun i t z h1 h2 => HV.out i t z (by have := (List.getElem?_eq_some_iff.1 h1).1; have := Hl.out; omega) h1 h2⟩
end Go.Proofs.Ytjebmmmjjiomfaa
