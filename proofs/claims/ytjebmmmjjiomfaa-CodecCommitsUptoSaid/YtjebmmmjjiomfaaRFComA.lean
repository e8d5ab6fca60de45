/- What the reference's TakeCommit rests on: boxes that are filled while something is read, rows in boxes, readings one behind another. The walk of the reference's TakeCommit. -/
import Derived.Test.YtjebmmmjjiomfaaRWel
import Derived.Test.YtjebmmmjjiomfaaCRComA
import Derived.Deep.CutRange
namespace Go.Proofs.Ytjebmmmjjiomfaa
open Go.RowKit

/-- what stands while a reader at q fills a box at h -/
structure PS (X : Nat → Prop) (q h n : Nat) (T : TypeId) (wa : World) (o : Option (List UInt8)) (f : Nat → Value) (wi : World) : Prop where
  bx : Bx wi h n f T
  rf : RF X wi q o
  kx : KX (fun b => b = q ∨ b = h) wa wi
  xh : X h
  qh : q ≠ h
section
variable {X : Nat → Prop} {q h n : Nat} {T : TypeId} {wa wi w2 : World} {o o2 : Option (List UInt8)} {f : Nat → Value}
theorem PS.call (s : PS X q h n T wa o f wi) (k : KX (· = q) wi w2) (r : RF X w2 q o2) : PS X q h n T wa o2 f w2 :=
  ⟨s.bx.kx k (fun e => s.qh e.symm), r, s.kx.trans (k.mono (fun _ e => .inl e)), s.xh, s.qh⟩
theorem PS.set (s : PS X q h n T wa o f wi) {j : Nat} (hj : j < n) (v : Value) : PS X q h n T wa o (fun i => if i = j then v else f i) (wi.setCell ⟨h, j, none⟩ v) :=
  ⟨s.bx.set hj v, s.rf.kx ((KX.refl (· = h) wi).set ⟨h, j, none⟩ v (.inl rfl)) (fun i e _ => by subst e; exact s.xh) s.qh, s.kx.set ⟨h, j, none⟩ v (.inl (.inr rfl)), s.xh, s.qh⟩
theorem PS.setsAt (s : PS X q h n T wa o f wi) (vs : List Value) (off : Nat) (hn : off + vs.length ≤ n) : PS X q h n T wa o (fun j => if off ≤ j then (vs[j - off]?).getD (f j) else f j) (wi.setCells h off vs) :=
  ⟨s.bx.setsAt vs off hn, s.rf.kx (KX.lays' wi h off vs) (fun i e _ => by subst e; exact s.xh) s.qh, s.kx.trans ((KX.lays' wi h off vs).mono (fun _ e => .inr e)), s.xh, s.qh⟩
end
/-- a thing laid behind others, the row in a box -/
theorem IE.put {α : Type} {E : World → α → List Value → Prop} {t T : TypeId} {m z off q nz : Nat} {fz : Nat → Value} {w2 w4 : World} {acc : List α} {s : α} {o : Obj} {cs v : List Value} {A A4 : Option Addr} {c c4 : Nat} {u : Value}
    (hzq : z < q) (hE : Els E w2 acc cs) (hs : E w2 s v) (hEk : ∀ a b, K3 a b → ∀ s v, E a s v → E b s v) (hO : Ow w2 (q + 1) t m A acc.length c cs) (ht : t ≠ 3)
    (hO4 : Ow w4 (q + 1) t m A4 (acc.length + 1) c4 (cs ++ v)) (hG4 : (w2.alloc o).grownBy w4 (Value.slice A acc.length c).ownBlock) (hB4 : Below (q + 1) (w2.alloc o) w4) (hc4 : w4.cell? ⟨z, off, none⟩ = some u) (hz4 : w4.frozen? ⟨z, off, none⟩ = false)
    (hT : ZB w2 z off nz fz T) (hT3 : T ≠ 3) :
    IE E t m ⟨z, off, none⟩ q (acc ++ [s]) (w4.setCell ⟨z, off, none⟩ (.slice A4 (acc.length + 1) c4)) ∧ ZB (w4.setCell ⟨z, off, none⟩ (.slice A4 (acc.length + 1) c4)) z off nz fz T ∧
      KX (fun b => b = z ∨ q + 1 ≤ b) w2 (w4.setCell ⟨z, off, none⟩ (.slice A4 (acc.length + 1) c4)) := by
  have hBa : Below w2.heap.size w2 (w2.alloc o) := nxa (Below.refl _ _) _
  have hZ4 : ZB w4 z off nz fz T := (hT.kx (X := fun _ => False) (KX.of hBa) (fun e => e)).kx (KX.ofB hB4) (by omega)
  have hK3 : K3 w2 (w4.setCell ⟨z, off, none⟩ (.slice A4 (acc.length + 1) c4)) := (((K3.refl w2).alloc o).grown (hO.alloc o) ht hG4).set (q := ⟨z, off, none⟩) hZ4.ty hT3 _
  refine ⟨⟨A4, c4, cs ++ v, ?_, ?_, ?_, ?_⟩, hZ4.set _, ((KX.of hBa).trans ((KX.ofB hB4).mono (fun i e => .inr e))).set ⟨z, off, none⟩ _ (.inl (.inl rfl))⟩
  · rw [List.length_append]; exact World.cell?_setCell_same _ _ _ hc4
  · rw [World.frozen?_setCell]; exact hz4
  · rw [List.length_append]
    exact hO4.kx ((KX.refl (· = z) w4).set ⟨z, off, none⟩ _ (.inl rfl)) (fun i e => by have := hO4.inb e; omega)
  · exact (hE.keep (hEk _ _ hK3)).snoc (hEk _ _ hK3 _ _ hs)
/-- a row of things that stands -/
def RowE {α : Type} (E : World → α → List Value → Prop) (t m : Nat) (w : World) (l : List α) (B : Option Addr) (d : Nat) : Prop := ∃ base cs, Ow w base t m B l.length d cs ∧ Els E w l cs
theorem RowE.kx {α : Type} {E : World → α → List Value → Prop} {t m : Nat} {X : Nat → Prop} {w w' : World} {l : List α} {B : Option Addr} {d : Nat} (h : RowE E t m w l B d) (hEk : ∀ a b, K3 a b → ∀ s v, E a s v → E b s v) (k : KX X w w') (hX : ∀ b, X b → ∃ T : TypeId, T ≠ t ∧ T ≠ 3 ∧ IsT w b T) : RowE E t m w' l B d := by
  obtain ⟨base, cs, h1, h2⟩ := h
  exact ⟨base, cs, h1.kxT k (fun b e => by obtain ⟨T, q1, _, q3⟩ := hX b e; exact ⟨T, q1, q3⟩), h2.keep (hEk _ _ (K3.kx k (fun b e => by obtain ⟨T, _, q2, q3⟩ := hX b e; exact ⟨T, q2, q3⟩)))⟩
theorem RowE.below {α : Type} {E : World → α → List Value → Prop} {t m : Nat} {w w' : World} {l : List α} {B : Option Addr} {d : Nat} (h : RowE E t m w l B d) (hEk : ∀ a b, K3 a b → ∀ s v, E a s v → E b s v) (k : Below w.heap.size w w') : RowE E t m w' l B d :=
  h.kx (X := fun _ => False) hEk (KX.of k) (fun _ e => e.elim)
def rP2 (l : List UInt8) : Option ((TN × List Int) × List UInt8) := (rNode l).bind fun y => (rIs 2 y.2).bind fun z => some ((y.1, z.1), z.2)
theorem out_prop {o o1 o2 o3 : Option (List UInt8)} {ns ms : List Int} {s : TN} (h1 : Rd 2 o ns o1) (h2 : Out rNode o1 s o2) (h3 : Rd 2 o2 ms o3) : Out rProp o ⟨ns.getD 0 0, ns.getD 1 0, s, ms.getD 0 0, ms.getD 1 0⟩ o3 := by
  have k : Out rP2 o1 (s, ms) o3 := Out.chain (g := fun _ => rIs 2) (h := fun a b => (a, b)) h2 h3.2 (fun l => rfl)
  refine Out.chain (g := fun _ => rP2) (h := fun (a : List Int) (b : TN × List Int) => (⟨a.getD 0 0, a.getD 1 0, b.1, b.2.getD 0 0, b.2.getD 1 0⟩ : PR)) h1.2 k (fun l => ?_)
  unfold rProp rP2
  cases rIs 2 l with
  | none => rfl
  | some x =>
    rw [Option.bind_some, Option.bind_some]
    cases rNode x.2 with
    | none => rfl
    | some t =>
      rw [Option.bind_some, Option.bind_some]
      cases rIs 2 t.2 <;> rfl
theorem out_pn {o o1 o2 : Option (List UInt8)} {a : Int} {un : List Int} (h1 : Out rI o a o1) (h2 : Out (rL rI) o1 un o2) : Out rPN o ⟨a, un⟩ o2 :=
  Out.chain (g := fun _ => rL rI) (h := fun (a : Int) (b : List Int) => (⟨a, b⟩ : PN)) h1 h2 (fun _ => rfl)
theorem out_path {o o1 o2 : Option (List UInt8)} {s : TN} {ns : List PN} (h1 : Out rNode o s o1) (h2 : Out (rL rPN) o1 ns o2) : Out rPath o (s, ns) o2 :=
  Out.chain (g := fun _ => rL rPN) (h := fun (a : TN) (b : List PN) => (a, b)) h1 h2 (fun _ => rfl)
/-- the end of a commit -/
def rTailC (x : List Int) (ps : List PR) (y : List Int) (l : List UInt8) : Option (CM × List UInt8) :=
  if y.getD 2 0 = 0 then some (cm0 x ps y, l) else if y.getD 2 0 = 1 then (rPath l).bind fun p => some (cm1 x ps y p.1.1 p.1.2, p.2) else none
def rC3 (x : List Int) (ps : List PR) (l : List UInt8) : Option (CM × List UInt8) := (rIs 3 l).bind fun y => (rTailC x ps y.1 y.2).bind fun c => some (c.1, c.2)
def rC2 (x : List Int) (l : List UInt8) : Option (CM × List UInt8) := (rL rProp l).bind fun ps => (rC3 x ps.1 ps.2).bind fun c => some (c.1, c.2)
theorem bind_self {α : Type} (o : Option (α × List UInt8)) : (o.bind fun c => some (c.1, c.2)) = o := by cases o <;> rfl
theorem out_commit {o o1 o2 o3 o4 : Option (List UInt8)} {a y : List Int} {ps : List PR} {c : CM} (h1 : Rd 2 o a o1) (h2 : Out (rL rProp) o1 ps o2) (h3 : Rd 3 o2 y o3) (h4 : Out (rTailC a ps y) o3 c o4) : Out rCommit o c o4 := by
  have k3 : Out (rC3 a ps) o2 c o4 := Out.chain (g := rTailC a ps) (h := fun _ c => c) h3.2 h4 (fun l => rfl)
  have k2 : Out (rC2 a) o1 c o4 := Out.chain (g := rC3 a) (h := fun _ c => c) h2 k3 (fun l => rfl)
  refine Out.chain (g := rC2) (h := fun _ c => c) h1.2 k2 (fun l => ?_)
  unfold rCommit rC2 rC3 rTailC
  cases rIs 2 l with
  | none => rfl
  | some x =>
    rw [Option.bind_some, Option.bind_some]
    simp only [bind_self]
theorem tail0 {a y : List Int} {ps : List PR} (hy : y.getD 2 0 = 0) (o : Option (List UInt8)) : Out (rTailC a ps y) o (cm0 a ps y) o := by
  cases o with
  | none => exact Out.none _ _
  | some l => exact Out.some (by unfold rTailC; rw [if_pos hy])
theorem tailX {a y : List Int} {ps : List PR} (h0 : y.getD 2 0 ≠ 0) (h1 : y.getD 2 0 ≠ 1) (o : Option (List UInt8)) (c : CM) : Out (rTailC a ps y) o c none := by
  cases o with
  | none => exact Out.none _ _
  | some l => exact Out.bad _ (by unfold rTailC; rw [if_neg h0, if_neg h1])
theorem tail1 {a y : List Int} {ps : List PR} {o o2 : Option (List UInt8)} {s : TN} {ns : List PN} (hy : y.getD 2 0 = 1) (h : Out rPath o (s, ns) o2) : Out (rTailC a ps y) o (cm1 a ps y s ns) o2 := by
  refine Out.chain (g := fun _ l => some ((), l)) (h := fun (p : TN × List PN) _ => cm1 a ps y p.1 p.2) h (b := ()) ?_ (fun l => ?_)
  · cases o2 with
    | none => exact Out.none _ _
    | some l => exact Out.some rfl
  · unfold rTailC
    rw [if_neg (by rw [hy]; decide), if_pos hy]
    cases rPath l <;> rfl
section
variable {n : Nat} {T : TypeId} {f0 f : Nat → Value} {w wr w2 : World} {g p z : Nat} {o o2 : Option (List UInt8)}
theorem WS.mark (h : WS n T f0 w g p z o f wr) (ho : o2 = none ∨ o2 = o) : WS n T f0 w g p z o2 f (wr.setCell ⟨p, 1, none⟩ (.bool o2.isNone)) := by
  have hk : KX (· = p) wr (wr.setCell ⟨p, 1, none⟩ (.bool o2.isNone)) := (KX.refl (· = p) wr).set ⟨p, 1, none⟩ _ (.inl rfl)
  exact ⟨h.bz.kx hk (by have := h.pz; omega), h.bg.kx hk (by have := h.gp; omega), RF.mark h.rf (by have := h.wg; have := h.gp; omega) ho, h.kx.next hk (fun i e => .inr (by have := h.wg; have := h.gp; omega)), h.wg, h.gp, h.pz⟩
theorem WS.setsAt (h : WS n T f0 w g p z o f wr) (vs : List Value) (off : Nat) (hn : off + vs.length ≤ n) : WS n T f0 w g p z o (fun j => if off ≤ j then (vs[j - off]?).getD (f j) else f j) (wr.setCells z off vs) :=
  ⟨h.bz.setsAt vs off hn, h.bg.kx (KX.lays' wr z off vs) (by have := h.gp; have := h.pz; omega), h.rf.kx (KX.lays' wr z off vs) (fun i e _ => by have := h.wg; have := h.gp; have := h.pz; omega) (by have := h.pz; omega),
    h.kx.next (KX.lays' wr z off vs) (fun i e => .inr (by have := h.wg; have := h.gp; have := h.pz; omega)), h.wg, h.gp, h.pz⟩
/-- behind a loop over a vector's reader that filled one cell -/
theorem WS.loop {off q : Nat} {v : Value} (h : WS n T f0 w g p z o f wr) (k : KX (zq z q) wr w2) (hq : p < q) (hz : ZB w2 z off n f T) (hv : w2.cell? ⟨z, off, none⟩ = some v) : WS n T f0 w g p z o (fun j => if j = off then v else f j) w2 :=
  ⟨hz.bx hv, h.bg.kx k (by have := h.gp; have := h.pz; show ¬ (g = z ∨ g = q); omega), h.rf.kx k (fun i e _ => by have := h.wg; have := h.gp; have := h.pz; rcases e with e | e <;> omega) (by have := h.pz; show ¬ (p = z ∨ p = q); omega),
    h.kx.next k (fun i e => .inr (by have := h.wg; have := h.gp; have := h.pz; rcases e with e | e <;> omega)), h.wg, h.gp, h.pz⟩
end
set_option maxRecDepth 100000 in
set_option maxHeartbeats 32000000 in
/-- the reference's TakeCommit -/
theorem rtakecommit_ok (A : Option Addr) (n c : Nat) (l : List UInt8) (w : World) (h : Sl w A n c (bv l)) (hlen : Hid (l.length ≤ 1073741824)) :
    Calls Try.prog 50 #[.slice A n c] w (CmEnd (full rCommit l) w) := by
  have hl : l.length = n := by have := h.len; rwa [bv_length] at this
  obtain ⟨g, hg⟩ : ∃ g, w.heap.size = g := ⟨_, rfl⟩
  obtain ⟨wa, hwa⟩ : ∃ wa, ((w.alloc (.cells zcm 72)).alloc (.cells #[.slice A n c, .bool false] 101)).alloc (.cells zcm 72) = wa := ⟨_, rfl⟩
  have hWS : WS 13 72 cf0 w g (g + 1) (g + 1 + 1) (some l) cf0 wa := by
    have hBa : Below w.heap.size w wa := by rw [← hwa]; exact nxa (nxa (nxa (Below.refl _ _) _) _) _
    have k0 : wa.heap[g]? = some (.cells zcm 72) := by rw [← hwa, Below.heap_alloc _ _ _ (by simp; omega), Below.heap_alloc _ _ _ (by simp; omega), ← hg]; exact heap_alloc_new _ _
    have k1 : wa.heap[g + 1]? = some (.cells #[.slice A n c, .bool false] 101) := by
      have := heap_alloc_new (w.alloc (.cells zcm 72)) (.cells #[.slice A n c, .bool false] 101)
      rw [← hwa, Below.heap_alloc _ _ _ (by simp; omega)]
      rwa [show (w.alloc (.cells zcm 72)).heap.size = g + 1 by simp [hg]] at this
    have k2 : wa.heap[g + 1 + 1]? = some (.cells zcm 72) := by
      have := heap_alloc_new ((w.alloc (.cells zcm 72)).alloc (.cells #[.slice A n c, .bool false] 101)) (.cells zcm 72)
      rw [← hwa]
      rwa [show ((w.alloc (.cells zcm 72)).alloc (.cells #[.slice A n c, .bool false] 101)).heap.size = g + 1 + 1 by simp [hg]] at this
    have hsl : SlX (fun b => w.heap.size ≤ b) wa A n c (bv l) := by
      refine ⟨h.below hBa, ?_⟩
      rcases h.lies with e | ⟨ad, rfl, _⟩
      · exact .inl e
      · by_cases hx : bv l = []
        · exact .inl hx
        · have := h.lies.blk rfl hx
          exact .inr ⟨ad, rfl, by show ¬ _ ≤ _; omega⟩
    exact ⟨Bx.of k2 zcm_f, Bx.of k0 zcm_f, ⟨A, c, l, by rw [hl]; exact cell_of k1 0, frz_of k1 0, cell_of k1 1, frz_of k1 1, by rw [hl]; exact hsl, hlen.out, ⟨_, _, k1⟩, fun l' e => by injection e with e; exact e.symm⟩, KX.of hBa, by omega, by omega, by omega⟩
  have HW := Lib.hid hwa; have HS := Lib.hid hWS
  obtain ⟨p, hp⟩ : ∃ p, g + 1 = p := ⟨_, rfl⟩
  obtain ⟨z, hz⟩ : ∃ z, p + 1 = z := ⟨_, rfl⟩
  rw [hp, hz] at HS
  have HXP : Hid (w.heap.size ≤ p) := Lib.hid (by omega)
  clear hwa hWS h
  go_enter Try.func50, Try.ntmps50
  go_wp2_with fail
  rw [HW.out]
  have HC1 := Lib.hid (rfint_ok p _ (some l) wa HS.out.rf HXP.out)
  refine HC1.out.mono ?_
  rintro e v1 ⟨a1, vv, o1, rfl, rfl, f3, f4, f5⟩
  have hR := Rd.snoc (Rd.zero (some l)) f3
  have hN := HS.out.call f5 f4
  have c0 := hN.bz.cell 0 (by omega)
  have z0 := hN.bz.fr 0
  have hN2 := hN.set (j := 0) (by omega) (.int .i64 a1)
  obtain ⟨t1, ht1⟩ : ∃ t1, v1.setCell ⟨z, 0, none⟩ (.int .i64 a1) = t1 := ⟨_, rfl⟩
  have hzt : KX (· = z) v1 t1 := by rw [← ht1]; exact (KX.refl (· = z) v1).set ⟨z, 0, none⟩ _ (.inl rfl)
  have HW1 := Lib.hid ht1
  rw [ht1] at hN2
  have HS1 := Lib.hid hN2; have HR1 := Lib.hid hR
  clear ht1 hzt f3 f4 f5 hN hN2 hR
  go_wp2_with fail
  rw [HW1.out]
  clear c0 z0
  have HC2 := Lib.hid (rfint_ok p _ o1 t1 HS1.out.rf HXP.out)
  refine HC2.out.mono ?_
  rintro e v2 ⟨a2, vv, o2, rfl, rfl, f3, f4, f5⟩
  have hR := Rd.snoc HR1.out f3
  have hN := HS1.out.call f5 f4
  have c1 := hN.bz.cell 1 (by omega)
  have z1 := hN.bz.fr 1
  have hN2 := hN.set (j := 1) (by omega) (.int .i64 a2)
  obtain ⟨t2, ht2⟩ : ∃ t2, v2.setCell ⟨z, 1, none⟩ (.int .i64 a2) = t2 := ⟨_, rfl⟩
  have hzt : KX (· = z) v2 t2 := by rw [← ht2]; exact (KX.refl (· = z) v2).set ⟨z, 1, none⟩ _ (.inl rfl)
  have HW2 := Lib.hid ht2
  rw [ht2] at hN2
  have HS2 := Lib.hid hN2; have HR2 := Lib.hid hR
  clear ht2 hzt f3 f4 f5 hN hN2 hR
  go_wp2_with fail
  rw [HW2.out]
  clear c1 z1
  obtain ⟨F1, hF1⟩ : ∃ F : Nat → Value, (fun i => if i = 1 then Value.int .i64 a2 else (fun i => if i = 0 then Value.int .i64 a1 else cf0 i) i) = F := ⟨_, rfl⟩
  have HSF : Hid (WS 13 72 cf0 w g p z o2 F1 t2) := Lib.hid (by rw [← hF1]; exact HS2.out)
  have HF1 := Lib.hid hF1
  clear hF1
  have HVL3 := Lib.hid (rfvec_ok p _ o2 t2 HSF.out.rf HXP.out)
  refine HVL3.out.mono ?_
  rintro e wL3 ⟨qL3, xL3, pL3, rfl, hq1, hq2, hout, hxn, hp1, hv1, hK1, hxl⟩
  have HNL3 := Lib.hid (HSF.out.call hK1 hp1)
  have HOL3 := Lib.hid hout; have HXL3 := Lib.hid hxl
  have hpqL3 : p < qL3 := by have := HSF.out.rf.bit; omega
  have hzqL3 : z < qL3 := by have := HSF.out.bz.bit; omega
  have hzcL3 : z < t2.heap.size := HSF.out.bz.bit
  have hq2L3 : qL3 + 1 = wL3.heap.size := hq2
  have hc2 : wL3.cell? ⟨z, 2, none⟩ = some (.slice none 0 0) := (HNL3.out.bz.cell 2 (by omega)).trans (by rw [← HF1.out]; rfl)
  have HTQL3 : Hid (IsT wL3 qL3 101) := Lib.hid hv1.isT
  clear hout hxn hp1 hK1 hxl hq1 hq2
  go_wp2_with fail
  go_loopw [7] (fun _ wr => ∃ (acc : List PR) (ov : Option (List UInt8)), Hid (LR rProp xL3 acc ov) ∧ RF (inq t2 qL3) wr qL3 ov ∧ Hid (IE PE 109 10 ⟨z, 2, none⟩ qL3 acc wr) ∧ Hid (ZB wr z 2 13 F1 72) ∧ Hid (KX (zq z qL3) wL3 wr) ∧ Hid (acc.length + remO ov ≤ xL3.length + 1)) (fun _ wr => liveAt wr qL3)
  case atStart => exact ⟨[], some xL3, Lib.hid (LR.start _ _), hv1, Lib.hid ⟨none, 0, [], hc2, HNL3.out.bz.fr 2, Ow.nil _ _ _ _, rfl⟩, Lib.hid (HNL3.out.bz.zb 2), Lib.hid (KX.refl _ _), Lib.hid (by simp [remO])⟩
  case round =>
    clear hv1 hc2
    obtain ⟨acc, ov, HL, hv, HI, HZ, HK, HB⟩ := hrel
    have HM := Lib.hid (rfmore_ok qL3 (inq t2 qL3) ov wr hv)
    obtain ⟨mo, hm⟩ : ∃ m, moreO ov = m := ⟨_, rfl⟩
    rw [hm] at HM
    cases mo
    · have HMO := Lib.hid hm
      obtain ⟨AL3, dL3, csL3, i1, i2, i3, i4⟩ := HI.out
      have hws := HNL3.out.loop HK.out hpqL3 HZ.out i1
      have hrow : RowE PE 109 10 wr acc AL3 dL3 := ⟨_, csL3, i3, i4⟩
      obtain ⟨G1, m1, k1, e0, e1, e2⟩ := hws.rf.cells
      obtain ⟨G2, m2, k2, g0, g1, g2⟩ := hv.cells
      have hzqT : ∀ b, zq z qL3 b → ∃ T : TypeId, T ≠ 3 ∧ IsT wL3 b T := fun b e => by
        rcases e with e | e
        · subst e; exact ⟨72, by decide, HNL3.out.bz.ty⟩
        · subst e; exact ⟨101, by decide, HTQL3.out⟩
      have HWS := Lib.hid hws; have R1 := Lib.hid hrow
      clear hws hrow i1 i2 i3 i4 hm hv hzqT
      go_upto_region 14 with (go_at_call 88; refine HM.out.mono ?_; rintro e w9 ⟨rfl, rfl⟩)
      go_cut [56] from 46 to 58 (fun r wx => r = .bool (fin pL3 ov).isNone ∧ wx = wr.setCell ⟨p, 1, none⟩ (.bool (fin pL3 ov).isNone))
      case first =>
        clear HL HMO HB
        rcases pL3 with _ | r1
        · have e1' : wr.cell? ⟨p, 1, none⟩ = some (.bool true) := e1
          clear e1
          have HFN : Hid (fin none ov = none) := Lib.hid (by cases ov <;> rfl)
          go_wp2_with fail
          go_meet
          exact ⟨by rw [HFN.out]; rfl, by rw [HFN.out]; rfl⟩
        · have e1' : wr.cell? ⟨p, 1, none⟩ = some (.bool false) := e1
          clear e1
          rcases ov with _ | lv
          · have g1' : wr.cell? ⟨qL3, 1, none⟩ = some (.bool true) := g1
            clear g1
            go_wp2_with fail
            go_meet
            exact ⟨rfl, rfl⟩
          · have g1' : wr.cell? ⟨qL3, 1, none⟩ = some (.bool false) := g1
            clear g1
            go_wp2_with fail
            go_meet
            exact ⟨rfl, rfl⟩
      case rest =>
        obtain ⟨rfl, hwc⟩ := hcut
        have HQL3 := Lib.hid (LR.out HOL3.out HL.out HMO.out)
        obtain ⟨onL3, hon⟩ : ∃ on, fin pL3 ov = on := ⟨_, rfl⟩
        have hor : onL3 = none ∨ onL3 = pL3 := by rw [← hon]; exact fin_or _ _
        rw [hon] at hwc HQL3 ⊢
        have hN := HWS.out.mark hor
        have hpt : KX (· = p) wr wc := by rw [hwc]; exact (KX.refl (· = p) wr).set ⟨p, 1, none⟩ _ (.inl rfl)
        rw [← hwc] at hN
        replace R1 := Lib.hid (RowE.kx R1.out (fun _ _ => PE.k3) hpt (fun b e => by subst e; exact ⟨101, by decide, by decide, HWS.out.rf.isT⟩))
        have HSL3 := Lib.hid hN
        obtain ⟨psL3, hps⟩ : ∃ ps, acc = ps := ⟨_, rfl⟩
        obtain ⟨WL3, hWn⟩ : ∃ W, wc = W := ⟨_, rfl⟩
        rw [hps] at HSL3 R1 HQL3
        rw [hWn] at HSL3 R1
        rw [hWn]
        clear hN hpt hwc hor hon hps hWn HWS HL HI HZ HK HB HM HMO e0 e1 e2 g0 g1 g2 HTQL3 HVL3
        obtain ⟨FL3, hFL3⟩ : ∃ F : Nat → Value, (fun j => if j = 2 then .slice AL3 psL3.length dL3 else F1 j) = F := ⟨_, rfl⟩
        rw [hFL3] at HSL3
        have HFL3 := Lib.hid hFL3
        clear hFL3
        go_wp2_with fail
        have HC4 := Lib.hid (rfint_ok p _ onL3 WL3 HSL3.out.rf HXP.out)
        refine HC4.out.mono ?_
        rintro e v4 ⟨a4, vv, o4, rfl, rfl, f3, f4, f5⟩
        have hR := Rd.snoc (Rd.zero onL3) f3
        replace R1 := Lib.hid (RowE.kx R1.out (fun _ _ => PE.k3) f5 (fun b e => by subst e; exact ⟨101, by decide, by decide, HSL3.out.rf.isT⟩))
        have hN := HSL3.out.call f5 f4
        have c11 := hN.bz.cell 11 (by omega)
        have z11 := hN.bz.fr 11
        have hN2 := hN.set (j := 11) (by omega) (.int .i64 a4)
        obtain ⟨t4, ht4⟩ : ∃ t4, v4.setCell ⟨z, 11, none⟩ (.int .i64 a4) = t4 := ⟨_, rfl⟩
        have hzt : KX (· = z) v4 t4 := by rw [← ht4]; exact (KX.refl (· = z) v4).set ⟨z, 11, none⟩ _ (.inl rfl)
        replace R1 := Lib.hid (RowE.kx R1.out (fun _ _ => PE.k3) hzt (fun b e => by subst e; exact ⟨72, by decide, by decide, hN.bz.ty⟩))
        have HW4 := Lib.hid ht4
        rw [ht4] at hN2
        have HS4 := Lib.hid hN2; have HR4 := Lib.hid hR
        clear ht4 hzt f3 f4 f5 hN hN2 hR
        go_wp2_with fail
        rw [HW4.out]
        clear c11 z11
        have HC5 := Lib.hid (rfint_ok p _ o4 t4 HS4.out.rf HXP.out)
        refine HC5.out.mono ?_
        rintro e v5 ⟨a5, vv, o5, rfl, rfl, f3, f4, f5⟩
        have hR := Rd.snoc HR4.out f3
        replace R1 := Lib.hid (RowE.kx R1.out (fun _ _ => PE.k3) f5 (fun b e => by subst e; exact ⟨101, by decide, by decide, HS4.out.rf.isT⟩))
        have hN := HS4.out.call f5 f4
        have c12 := hN.bz.cell 12 (by omega)
        have z12 := hN.bz.fr 12
        have hN2 := hN.set (j := 12) (by omega) (.int .i64 a5)
        obtain ⟨t5, ht5⟩ : ∃ t5, v5.setCell ⟨z, 12, none⟩ (.int .i64 a5) = t5 := ⟨_, rfl⟩
        have hzt : KX (· = z) v5 t5 := by rw [← ht5]; exact (KX.refl (· = z) v5).set ⟨z, 12, none⟩ _ (.inl rfl)
        replace R1 := Lib.hid (RowE.kx R1.out (fun _ _ => PE.k3) hzt (fun b e => by subst e; exact ⟨72, by decide, by decide, hN.bz.ty⟩))
        have HW5 := Lib.hid ht5
        rw [ht5] at hN2
        have HS5 := Lib.hid hN2; have HR5 := Lib.hid hR
        clear ht5 hzt f3 f4 f5 hN hN2 hR
        go_wp2_with fail
        rw [HW5.out]
        clear c12 z12
        obtain ⟨F2, hF2⟩ : ∃ G : Nat → Value, (fun i => if i = 12 then Value.int .i64 a5 else (fun i => if i = 11 then Value.int .i64 a4 else FL3 i) i) = G := ⟨_, rfl⟩
        have HSG : Hid (WS 13 72 cf0 w g p z o5 F2 t5) := Lib.hid (by rw [← hF2]; exact HS5.out)
        have HF2 := Lib.hid hF2
        clear hF2
        have HC6 := Lib.hid (rfint_ok p _ o5 t5 HSG.out.rf HXP.out)
        refine HC6.out.mono ?_
        rintro e v6 ⟨a6, vv, o6, rfl, rfl, f3, f4, f5⟩
        have hR := Rd.snoc HR5.out f3
        replace R1 := Lib.hid (RowE.kx R1.out (fun _ _ => PE.k3) f5 (fun b e => by subst e; exact ⟨101, by decide, by decide, HSG.out.rf.isT⟩))
        have HS6 := Lib.hid (HSG.out.call f5 f4); have HR6 := Lib.hid hR
        clear f3 f4 f5 hR
        by_cases k0 : a6 = 0
        · have t0 : (a6 == 0) = true := by rw [beq_iff_eq]; exact k0
          have HK0 := Lib.hid k0
          clear k0
          go_wp2_with fail
          have HD := Lib.hid (rfdone_ok p _ o6 v6 HS6.out.rf)
          have HO := Lib.hid (out_commit HR2.out HQL3.out HR6.out (tail0 (y := ([] ++ [a4] ++ [a5] ++ [a6])) (show (([] ++ [a4] ++ [a5] ++ [a6]) : List Int).getD 2 0 = 0 from HK0.out) _))
          have HF := Lib.hid (Out.full HO.out)
          obtain ⟨x, hx⟩ : ∃ x, cm0 ([] ++ [a1] ++ [a2]) psL3 ([] ++ [a4] ++ [a5] ++ [a6]) = x := ⟨_, rfl⟩
          obtain ⟨P, hP⟩ : ∃ P : CP, ⟨AL3, psL3.length, dL3, none, 0, 0, none, 0, 0⟩ = P := ⟨_, rfl⟩
          have hx9 : Bx v6 z 13 (cmf x P) 72 := by
            refine ⟨fun j hj => (HS6.out.bz.cell j hj).trans ?_, HS6.out.bz.fr, HS6.out.bz.ty, HS6.out.bz.bit⟩
            rw [← hx, ← hP, ← HF2.out, ← HFL3.out, ← HF1.out]
            match j, hj with
            | 0, _ => rfl | 1, _ => rfl | 2, _ => rfl | 3, _ => rfl | 4, _ => rfl | 5, _ => rfl | 6, _ => rfl | 7, _ => rfl | 8, _ => rfl | 9, _ => rfl | 10, _ => rfl | 11, _ => rfl | 12, _ => rfl
            | j + 13, h => exact absurd h (by omega)
          have hxr : CRows v6 x P := by
            rw [← hx, ← hP]
            exact ⟨by obtain ⟨b, cs, q1, q2⟩ := R1.out; exact ⟨b, cs, q1, q2⟩, rfl, UO.none _, rfl, ⟨0, [], Ow.nil _ _ _ _, rfl⟩, rfl⟩
          rw [hx] at HF
          have HX9 := Lib.hid hx9; have HXR := Lib.hid hxr
          clear hx hP hx9 hxr
          have hg2 := HS6.out.bg
          obtain ⟨dn, hdn⟩ : ∃ dn, doneO o6 = dn := ⟨_, rfl⟩
          rw [hdn] at HD HF
          clear hdn
          cases dn
          · have HL := Lib.hid (hg2.sets (g := cf0) zcm.toList rfl (fun j hj => by have := zcm_f j hj; simpa using this))
            have HFIN := Lib.hid (HS6.out.lays zcm.toList)
            have u0 := hg2.cell 0 (by omega); have u1 := hg2.cell 1 (by omega); have u2 := hg2.cell 2 (by omega); have u3 := hg2.cell 3 (by omega); have u4 := hg2.cell 4 (by omega); have u5 := hg2.cell 5 (by omega); have u6 := hg2.cell 6 (by omega); have u7 := hg2.cell 7 (by omega); have u8 := hg2.cell 8 (by omega); have u9 := hg2.cell 9 (by omega); have u10 := hg2.cell 10 (by omega); have u11 := hg2.cell 11 (by omega); have u12 := hg2.cell 12 (by omega)
            have x0 := hg2.fr 0; have x1 := hg2.fr 1; have x2 := hg2.fr 2; have x3 := hg2.fr 3; have x4 := hg2.fr 4; have x5 := hg2.fr 5; have x6 := hg2.fr 6; have x7 := hg2.fr 7; have x8 := hg2.fr 8; have x9 := hg2.fr 9; have x10 := hg2.fr 10; have x11 := hg2.fr 11; have x12 := hg2.fr 12
            clear hg2
            refine HD.out.mono ?_
            rintro e w9 ⟨rfl, rfl⟩
            go_wp2_with fail
            refine (show bodyPost Try.prog Try.f50 (CmEnd (full rCommit l) w) Exit.ret _ (v6.setCells g 0 zcm.toList) from ?_)
            have l0 := HL.out.cell 0 (by omega); have l1 := HL.out.cell 1 (by omega); have l2 := HL.out.cell 2 (by omega); have l3 := HL.out.cell 3 (by omega); have l4 := HL.out.cell 4 (by omega); have l5 := HL.out.cell 5 (by omega); have l6 := HL.out.cell 6 (by omega); have l7 := HL.out.cell 7 (by omega); have l8 := HL.out.cell 8 (by omega); have l9 := HL.out.cell 9 (by omega); have l10 := HL.out.cell 10 (by omega); have l11 := HL.out.cell 11 (by omega); have l12 := HL.out.cell 12 (by omega)
            simp only [cf0, cmf, cm00, cp00] at l0 l1 l2 l3 l4 l5 l6 l7 l8 l9 l10 l11 l12
            generalize v6.setCells g 0 zcm.toList = w9 at *
            simp [bodyPost, results, Try.results50, go_sem, l0, l1, l2, l3, l4, l5, l6, l7, l8, l9, l10, l11, l12]
            exact ⟨.inr ⟨HF.out, rfl⟩, HFIN.out⟩
          · have HL := Lib.hid (hg2.sets (cc x P).toList rfl (cc_f x P))
            have HFIN := Lib.hid (HS6.out.lays (cc x P).toList)
            have hT9 := HXR.out.kx (KX.lays v6 g (cc x P).toList) (fun b e => ⟨72, by decide, by decide, by decide, by subst e; exact hg2.ty⟩)
            have HT99 := Lib.hid hT9
            have c0 := HX9.out.cell 0 (by omega); have c1 := HX9.out.cell 1 (by omega); have c2 := HX9.out.cell 2 (by omega); have c3 := HX9.out.cell 3 (by omega); have c4 := HX9.out.cell 4 (by omega); have c5 := HX9.out.cell 5 (by omega); have c6 := HX9.out.cell 6 (by omega); have c7 := HX9.out.cell 7 (by omega); have c8 := HX9.out.cell 8 (by omega); have c9 := HX9.out.cell 9 (by omega); have c10 := HX9.out.cell 10 (by omega); have c11 := HX9.out.cell 11 (by omega); have c12 := HX9.out.cell 12 (by omega)
            simp only [cmf] at c0 c1 c2 c3 c4 c5 c6 c7 c8 c9 c10 c11 c12
            have u0 := hg2.cell 0 (by omega); have u1 := hg2.cell 1 (by omega); have u2 := hg2.cell 2 (by omega); have u3 := hg2.cell 3 (by omega); have u4 := hg2.cell 4 (by omega); have u5 := hg2.cell 5 (by omega); have u6 := hg2.cell 6 (by omega); have u7 := hg2.cell 7 (by omega); have u8 := hg2.cell 8 (by omega); have u9 := hg2.cell 9 (by omega); have u10 := hg2.cell 10 (by omega); have u11 := hg2.cell 11 (by omega); have u12 := hg2.cell 12 (by omega)
            have x0 := hg2.fr 0; have x1 := hg2.fr 1; have x2 := hg2.fr 2; have x3 := hg2.fr 3; have x4 := hg2.fr 4; have x5 := hg2.fr 5; have x6 := hg2.fr 6; have x7 := hg2.fr 7; have x8 := hg2.fr 8; have x9 := hg2.fr 9; have x10 := hg2.fr 10; have x11 := hg2.fr 11; have x12 := hg2.fr 12
            clear hg2 hT9
            refine HD.out.mono ?_
            rintro e w9 ⟨rfl, rfl⟩
            go_wp2_with fail
            refine (show bodyPost Try.prog Try.f50 (CmEnd (full rCommit l) w) Exit.ret _ (v6.setCells g 0 (cc x P).toList) from ?_)
            have l0 := HL.out.cell 0 (by omega); have l1 := HL.out.cell 1 (by omega); have l2 := HL.out.cell 2 (by omega); have l3 := HL.out.cell 3 (by omega); have l4 := HL.out.cell 4 (by omega); have l5 := HL.out.cell 5 (by omega); have l6 := HL.out.cell 6 (by omega); have l7 := HL.out.cell 7 (by omega); have l8 := HL.out.cell 8 (by omega); have l9 := HL.out.cell 9 (by omega); have l10 := HL.out.cell 10 (by omega); have l11 := HL.out.cell 11 (by omega); have l12 := HL.out.cell 12 (by omega)
            simp only [cmf] at l0 l1 l2 l3 l4 l5 l6 l7 l8 l9 l10 l11 l12
            generalize v6.setCells g 0 (cc x P).toList = w9 at *
            simp [bodyPost, results, Try.results50, go_sem, l0, l1, l2, l3, l4, l5, l6, l7, l8, l9, l10, l11, l12]
            exact ⟨.inl ⟨x, P, HF.out, rfl, HT99.out.mem⟩, HFIN.out⟩
        · have t0 : (a6 == 0) = false := by rw [beq_eq_false_iff_ne]; exact k0
          by_cases k1 : a6 = 1
          · have t1 : (a6 == 1) = true := by rw [beq_iff_eq]; exact k1
            have HK1 := Lib.hid k1
            clear k0 k1
            have hN := HS6.out
            have c3 := hN.bz.cell 3 (by omega)
            have z3 := hN.bz.fr 3
            have hN2 := hN.set (j := 3) (by omega) (.bool true)
            obtain ⟨tb, htb⟩ : ∃ tb, v6.setCell ⟨z, 3, none⟩ (.bool true) = tb := ⟨_, rfl⟩
            have hzt : KX (· = z) v6 tb := by rw [← htb]; exact (KX.refl (· = z) v6).set ⟨z, 3, none⟩ _ (.inl rfl)
            replace R1 := Lib.hid (RowE.kx R1.out (fun _ _ => PE.k3) hzt (fun b e => by subst e; exact ⟨72, by decide, by decide, hN.bz.ty⟩))
            rw [htb] at hN2
            have HTB := Lib.hid htb; have HST := Lib.hid hN2
            have c3' : v6.cell? ⟨z, 3, none⟩ = some (.bool false) := c3.trans (by rw [← HF2.out, ← HFL3.out, ← HF1.out]; rfl)
            clear htb hzt hN hN2 c3
            go_wp2_with fail
            rw [HTB.out]
            clear c3' z3
            have HCN := Lib.hid (rfnode_ok p _ o6 tb HST.out.rf HXP.out)
            refine HCN.out.mono ?_
            rintro e vn ⟨s, vv, onode, rfl, ⟨B, d, rfl, hU⟩, f3, f4, f5⟩
            replace R1 := Lib.hid (RowE.kx R1.out (fun _ _ => PE.k3) f5 (fun b e => by subst e; exact ⟨101, by decide, by decide, HST.out.rf.isT⟩))
            have hN := HST.out.call f5 f4
            have c4 := hN.bz.cell 4 (by omega); have c5 := hN.bz.cell 5 (by omega); have c6 := hN.bz.cell 6 (by omega); have c7 := hN.bz.cell 7 (by omega); have c8 := hN.bz.cell 8 (by omega); have c9 := hN.bz.cell 9 (by omega)
            have z4 := hN.bz.fr 4; have z5 := hN.bz.fr 5; have z6 := hN.bz.fr 6; have z7 := hN.bz.fr 7; have z8 := hN.bz.fr 8; have z9 := hN.bz.fr 9
            have hN2 := hN.setsAt [.int .i64 s.k, .int .i64 s.id, .int .i64 s.enc, .int .i64 s.sig, .int .i64 s.hash, .slice B s.un.length d] 4 (by simp)
            obtain ⟨tn, htn⟩ : ∃ tn, (((((vn.setCell ⟨z, 4, none⟩ (.int .i64 s.k)).setCell ⟨z, 5, none⟩ (.int .i64 s.id)).setCell ⟨z, 6, none⟩ (.int .i64 s.enc)).setCell ⟨z, 7, none⟩ (.int .i64 s.sig)).setCell ⟨z, 8, none⟩ (.int .i64 s.hash)).setCell ⟨z, 9, none⟩ (.slice B s.un.length d) = tn := ⟨_, rfl⟩
            rw [show vn.setCells z 4 [.int .i64 s.k, .int .i64 s.id, .int .i64 s.enc, .int .i64 s.sig, .int .i64 s.hash, .slice B s.un.length d] = tn from htn] at hN2
            have hzt : KX (· = z) vn tn := by rw [← htn]; exact KX.lays' vn z 4 [.int .i64 s.k, .int .i64 s.id, .int .i64 s.enc, .int .i64 s.sig, .int .i64 s.hash, .slice B s.un.length d]
            have UN := Lib.hid (hU.k3 (K3.kx hzt (fun b e => by subst e; exact ⟨72, by decide, hN.bz.ty⟩)))
            replace R1 := Lib.hid (RowE.kx R1.out (fun _ _ => PE.k3) hzt (fun b e => by subst e; exact ⟨72, by decide, by decide, hN.bz.ty⟩))
            have HTN := Lib.hid htn; have HSN := Lib.hid hN2; have HON := Lib.hid f3
            clear htn hzt hN hN2 f3 f4 f5 hU
            unfold nv
            go_wp2_with fail
            rw [HTN.out]
            clear c4 z4 c5 z5 c6 z6 c7 z7 c8 z8 c9 z9
            obtain ⟨F3, hF3⟩ : ∃ G : Nat → Value, (fun j => if 4 ≤ j then (([.int .i64 s.k, .int .i64 s.id, .int .i64 s.enc, .int .i64 s.sig, .int .i64 s.hash, .slice B s.un.length d] : List Value)[j - 4]?).getD ((fun i => if i = 3 then Value.bool true else F2 i) j) else (fun i => if i = 3 then Value.bool true else F2 i) j) = G := ⟨_, rfl⟩
            have HSH : Hid (WS 13 72 cf0 w g p z onode F3 tn) := Lib.hid (by rw [← hF3]; exact HSN.out)
            have HF3 := Lib.hid hF3
            clear hF3
            have HVL7 := Lib.hid (rfvec_ok p _ onode tn HSH.out.rf HXP.out)
            refine HVL7.out.mono ?_
            rintro e wL7 ⟨qL7, xL7, pL7, rfl, hq1, hq2, hout, hxn, hp1, hv1, hK1, hxl⟩
            replace R1 := Lib.hid (RowE.kx R1.out (fun _ _ => PE.k3) hK1 (fun b e => by subst e; exact ⟨101, by decide, by decide, HSH.out.rf.isT⟩))
            replace UN := Lib.hid (UN.out.k3 (K3.kx hK1 (fun b e => by subst e; exact ⟨101, by decide, HSH.out.rf.isT⟩)))
            have HNL7 := Lib.hid (HSH.out.call hK1 hp1)
            have HOL7 := Lib.hid hout; have HXL7 := Lib.hid hxl
            have hpqL7 : p < qL7 := by have := HSH.out.rf.bit; omega
            have hzqL7 : z < qL7 := by have := HSH.out.bz.bit; omega
            have hzcL7 : z < tn.heap.size := HSH.out.bz.bit
            have hq2L7 : qL7 + 1 = wL7.heap.size := hq2
            have hc10 : wL7.cell? ⟨z, 10, none⟩ = some (.slice none 0 0) := (HNL7.out.bz.cell 10 (by omega)).trans (by rw [← HF3.out, ← HF2.out, ← HFL3.out, ← HF1.out]; rfl)
            have HTQL7 : Hid (IsT wL7 qL7 101) := Lib.hid hv1.isT
            clear hout hxn hp1 hK1 hxl hq1 hq2
            go_wp2_with fail
            go_loopw [9] (fun _ wr => ∃ (acc : List PN) (ov : Option (List UInt8)), Hid (LR rPN xL7 acc ov) ∧ RF (inq tn qL7) wr qL7 ov ∧ Hid (IE QE 111 2 ⟨z, 10, none⟩ qL7 acc wr) ∧ Hid (ZB wr z 10 13 F3 72) ∧ Hid (KX (zq z qL7) wL7 wr) ∧ Hid (acc.length + remO ov ≤ xL7.length + 1)) (fun _ wr => liveAt wr qL7)
            case atStart => exact ⟨[], some xL7, Lib.hid (LR.start _ _), hv1, Lib.hid ⟨none, 0, [], hc10, HNL7.out.bz.fr 10, Ow.nil _ _ _ _, rfl⟩, Lib.hid (HNL7.out.bz.zb 10), Lib.hid (KX.refl _ _), Lib.hid (by simp [remO])⟩
            case round =>
              clear hv1 hc10
              obtain ⟨acc, ov, HL, hv, HI, HZ, HK, HB⟩ := hrel
              have HM := Lib.hid (rfmore_ok qL7 (inq tn qL7) ov wr hv)
              obtain ⟨mo, hm⟩ : ∃ m, moreO ov = m := ⟨_, rfl⟩
              rw [hm] at HM
              cases mo
              · have HMO := Lib.hid hm
                obtain ⟨AL7, dL7, csL7, i1, i2, i3, i4⟩ := HI.out
                have hws := HNL7.out.loop HK.out hpqL7 HZ.out i1
                have hrow : RowE QE 111 2 wr acc AL7 dL7 := ⟨_, csL7, i3, i4⟩
                obtain ⟨G1, m1, k1, e0, e1, e2⟩ := hws.rf.cells
                obtain ⟨G2, m2, k2, g0, g1, g2⟩ := hv.cells
                have hzqT : ∀ b, zq z qL7 b → ∃ T : TypeId, T ≠ 3 ∧ IsT wL7 b T := fun b e => by
                  rcases e with e | e
                  · subst e; exact ⟨72, by decide, HNL7.out.bz.ty⟩
                  · subst e; exact ⟨101, by decide, HTQL7.out⟩
                have RNn := RowE.kx R1.out (fun _ _ => PE.k3) HK.out (fun b e => by rcases e with e | e; (subst e; exact ⟨72, by decide, by decide, HNL7.out.bz.ty⟩); (subst e; exact ⟨101, by decide, by decide, HTQL7.out⟩))
                replace R1 := Lib.hid RNn
                clear RNn
                have UNn := UN.out.k3 (K3.kx HK.out hzqT)
                replace UN := Lib.hid UNn
                clear UNn
                have HWS := Lib.hid hws; have R2 := Lib.hid hrow
                clear hws hrow i1 i2 i3 i4 hm hv hzqT
                go_upto_region 28 with (go_at_call 88; refine HM.out.mono ?_; rintro e w9 ⟨rfl, rfl⟩)
                have HQL7 := Lib.hid (LR.out HOL7.out HL.out HMO.out)
                obtain ⟨onL7, hon⟩ : ∃ on, fin pL7 ov = on := ⟨_, rfl⟩
                have hor : onL7 = none ∨ onL7 = pL7 := by rw [← hon]; exact fin_or _ _
                rw [hon] at HQL7
                have HONL7 := Lib.hid hon
                have hN := HWS.out.mark hor
                obtain ⟨WL7, hWn⟩ : ∃ W, wr.setCell ⟨p, 1, none⟩ (.bool onL7.isNone) = W := ⟨_, rfl⟩
                have hpt : KX (· = p) wr WL7 := by rw [← hWn]; exact (KX.refl (· = p) wr).set ⟨p, 1, none⟩ _ (.inl rfl)
                rw [hWn] at hN
                replace R1 := Lib.hid (RowE.kx R1.out (fun _ _ => PE.k3) hpt (fun b e => by subst e; exact ⟨101, by decide, by decide, HWS.out.rf.isT⟩))
                replace UN := Lib.hid (UN.out.k3 (K3.kx hpt (fun b e => by subst e; exact ⟨101, by decide, HWS.out.rf.isT⟩)))
                replace R2 := Lib.hid (RowE.kx R2.out (fun _ _ => QE.k3) hpt (fun b e => by subst e; exact ⟨101, by decide, by decide, HWS.out.rf.isT⟩))
                have HSL7 := Lib.hid hN; have HWN := Lib.hid hWn
                obtain ⟨psL7, hps⟩ : ∃ ps, acc = ps := ⟨_, rfl⟩
                rw [hps] at HSL7 R2 HQL7
                clear hN hpt hor hon hps hWn HWS HL HI HZ HK HB HM HMO HTQL7 HVL7
                obtain ⟨FL7, hFL7⟩ : ∃ F : Nat → Value, (fun j => if j = 10 then .slice AL7 psL7.length dL7 else F3 j) = F := ⟨_, rfl⟩
                rw [hFL7] at HSL7
                have HFL7 := Lib.hid hFL7
                clear hFL7
                rcases pL7 with _ | r1
                · have e1' : wr.cell? ⟨p, 1, none⟩ = some (.bool true) := e1
                  clear e1
                  have hb : onL7.isNone = true := by rw [← HONL7.out]; cases ov <;> rfl
                  have hWM := HWN.out
                  rw [hb] at hWM
                  have HWM := Lib.hid hWM
                  clear hb hWM
                  go_wp2_with fail
                  rw [HWM.out]
                  clear e0 e1' e2 g0 g1 g2
                  have HD := Lib.hid (rfdone_ok p _ onL7 WL7 HSL7.out.rf)
                  have HO := Lib.hid (out_commit HR2.out HQL3.out HR6.out (tail1 (y := ([] ++ [a4] ++ [a5] ++ [a6])) (show (([] ++ [a4] ++ [a5] ++ [a6]) : List Int).getD 2 0 = 1 from HK1.out) (out_path HON.out HQL7.out)))
                  have HF := Lib.hid (Out.full HO.out)
                  obtain ⟨x, hx⟩ : ∃ x, cm1 ([] ++ [a1] ++ [a2]) psL3 ([] ++ [a4] ++ [a5] ++ [a6]) s psL7 = x := ⟨_, rfl⟩
                  obtain ⟨P, hP⟩ : ∃ P : CP, ⟨AL3, psL3.length, dL3, B, s.un.length, d, AL7, psL7.length, dL7⟩ = P := ⟨_, rfl⟩
                  have hx9 : Bx WL7 z 13 (cmf x P) 72 := by
                    refine ⟨fun j hj => (HSL7.out.bz.cell j hj).trans ?_, HSL7.out.bz.fr, HSL7.out.bz.ty, HSL7.out.bz.bit⟩
                    rw [← hx, ← hP, ← HFL7.out, ← HF3.out, ← HF2.out, ← HFL3.out, ← HF1.out]
                    match j, hj with
                    | 0, _ => rfl | 1, _ => rfl | 2, _ => rfl | 3, _ => rfl | 4, _ => rfl | 5, _ => rfl | 6, _ => rfl | 7, _ => rfl | 8, _ => rfl | 9, _ => rfl | 10, _ => rfl | 11, _ => rfl | 12, _ => rfl
                    | j + 13, h => exact absurd h (by omega)
                  have hxr : CRows WL7 x P := by
                    rw [← hx, ← hP]
                    exact ⟨by obtain ⟨b, cs, q1, q2⟩ := R1.out; exact ⟨b, cs, q1, q2⟩, rfl, UN.out, rfl, by obtain ⟨b, cs, q1, q2⟩ := R2.out; exact ⟨b, cs, q1, q2⟩, rfl⟩
                  rw [hx] at HF
                  have HX9 := Lib.hid hx9; have HXR := Lib.hid hxr
                  clear hx hP hx9 hxr
                  have hg2 := HSL7.out.bg
                  obtain ⟨dn, hdn⟩ : ∃ dn, doneO onL7 = dn := ⟨_, rfl⟩
                  rw [hdn] at HD HF
                  clear hdn
                  cases dn
                  · have HL := Lib.hid (hg2.sets (g := cf0) zcm.toList rfl (fun j hj => by have := zcm_f j hj; simpa using this))
                    have HFIN := Lib.hid (HSL7.out.lays zcm.toList)
                    have u0 := hg2.cell 0 (by omega); have u1 := hg2.cell 1 (by omega); have u2 := hg2.cell 2 (by omega); have u3 := hg2.cell 3 (by omega); have u4 := hg2.cell 4 (by omega); have u5 := hg2.cell 5 (by omega); have u6 := hg2.cell 6 (by omega); have u7 := hg2.cell 7 (by omega); have u8 := hg2.cell 8 (by omega); have u9 := hg2.cell 9 (by omega); have u10 := hg2.cell 10 (by omega); have u11 := hg2.cell 11 (by omega); have u12 := hg2.cell 12 (by omega)
                    have x0 := hg2.fr 0; have x1 := hg2.fr 1; have x2 := hg2.fr 2; have x3 := hg2.fr 3; have x4 := hg2.fr 4; have x5 := hg2.fr 5; have x6 := hg2.fr 6; have x7 := hg2.fr 7; have x8 := hg2.fr 8; have x9 := hg2.fr 9; have x10 := hg2.fr 10; have x11 := hg2.fr 11; have x12 := hg2.fr 12
                    clear hg2
                    refine HD.out.mono ?_
                    rintro e w9 ⟨rfl, rfl⟩
                    go_wp2_with fail
                    refine (show bodyPost Try.prog Try.f50 (CmEnd (full rCommit l) w) Exit.ret _ (WL7.setCells g 0 zcm.toList) from ?_)
                    have l0 := HL.out.cell 0 (by omega); have l1 := HL.out.cell 1 (by omega); have l2 := HL.out.cell 2 (by omega); have l3 := HL.out.cell 3 (by omega); have l4 := HL.out.cell 4 (by omega); have l5 := HL.out.cell 5 (by omega); have l6 := HL.out.cell 6 (by omega); have l7 := HL.out.cell 7 (by omega); have l8 := HL.out.cell 8 (by omega); have l9 := HL.out.cell 9 (by omega); have l10 := HL.out.cell 10 (by omega); have l11 := HL.out.cell 11 (by omega); have l12 := HL.out.cell 12 (by omega)
                    simp only [cf0, cmf, cm00, cp00] at l0 l1 l2 l3 l4 l5 l6 l7 l8 l9 l10 l11 l12
                    generalize WL7.setCells g 0 zcm.toList = w9 at *
                    simp [bodyPost, results, Try.results50, go_sem, l0, l1, l2, l3, l4, l5, l6, l7, l8, l9, l10, l11, l12]
                    exact ⟨.inr ⟨HF.out, rfl⟩, HFIN.out⟩
                  · have HL := Lib.hid (hg2.sets (cc x P).toList rfl (cc_f x P))
                    have HFIN := Lib.hid (HSL7.out.lays (cc x P).toList)
                    have hT9 := HXR.out.kx (KX.lays WL7 g (cc x P).toList) (fun b e => ⟨72, by decide, by decide, by decide, by subst e; exact hg2.ty⟩)
                    have HT99 := Lib.hid hT9
                    have c0 := HX9.out.cell 0 (by omega); have c1 := HX9.out.cell 1 (by omega); have c2 := HX9.out.cell 2 (by omega); have c3 := HX9.out.cell 3 (by omega); have c4 := HX9.out.cell 4 (by omega); have c5 := HX9.out.cell 5 (by omega); have c6 := HX9.out.cell 6 (by omega); have c7 := HX9.out.cell 7 (by omega); have c8 := HX9.out.cell 8 (by omega); have c9 := HX9.out.cell 9 (by omega); have c10 := HX9.out.cell 10 (by omega); have c11 := HX9.out.cell 11 (by omega); have c12 := HX9.out.cell 12 (by omega)
                    simp only [cmf] at c0 c1 c2 c3 c4 c5 c6 c7 c8 c9 c10 c11 c12
                    have u0 := hg2.cell 0 (by omega); have u1 := hg2.cell 1 (by omega); have u2 := hg2.cell 2 (by omega); have u3 := hg2.cell 3 (by omega); have u4 := hg2.cell 4 (by omega); have u5 := hg2.cell 5 (by omega); have u6 := hg2.cell 6 (by omega); have u7 := hg2.cell 7 (by omega); have u8 := hg2.cell 8 (by omega); have u9 := hg2.cell 9 (by omega); have u10 := hg2.cell 10 (by omega); have u11 := hg2.cell 11 (by omega); have u12 := hg2.cell 12 (by omega)
                    have x0 := hg2.fr 0; have x1 := hg2.fr 1; have x2 := hg2.fr 2; have x3 := hg2.fr 3; have x4 := hg2.fr 4; have x5 := hg2.fr 5; have x6 := hg2.fr 6; have x7 := hg2.fr 7; have x8 := hg2.fr 8; have x9 := hg2.fr 9; have x10 := hg2.fr 10; have x11 := hg2.fr 11; have x12 := hg2.fr 12
                    clear hg2 hT9
                    refine HD.out.mono ?_
                    rintro e w9 ⟨rfl, rfl⟩
                    go_wp2_with fail
                    refine (show bodyPost Try.prog Try.f50 (CmEnd (full rCommit l) w) Exit.ret _ (WL7.setCells g 0 (cc x P).toList) from ?_)
                    have l0 := HL.out.cell 0 (by omega); have l1 := HL.out.cell 1 (by omega); have l2 := HL.out.cell 2 (by omega); have l3 := HL.out.cell 3 (by omega); have l4 := HL.out.cell 4 (by omega); have l5 := HL.out.cell 5 (by omega); have l6 := HL.out.cell 6 (by omega); have l7 := HL.out.cell 7 (by omega); have l8 := HL.out.cell 8 (by omega); have l9 := HL.out.cell 9 (by omega); have l10 := HL.out.cell 10 (by omega); have l11 := HL.out.cell 11 (by omega); have l12 := HL.out.cell 12 (by omega)
                    simp only [cmf] at l0 l1 l2 l3 l4 l5 l6 l7 l8 l9 l10 l11 l12
                    generalize WL7.setCells g 0 (cc x P).toList = w9 at *
                    simp [bodyPost, results, Try.results50, go_sem, l0, l1, l2, l3, l4, l5, l6, l7, l8, l9, l10, l11, l12]
                    exact ⟨.inl ⟨x, P, HF.out, rfl, HT99.out.mem⟩, HFIN.out⟩
                · have e1' : wr.cell? ⟨p, 1, none⟩ = some (.bool false) := e1
                  clear e1
                  rcases ov with _ | lv
                  · have g1' : wr.cell? ⟨qL7, 1, none⟩ = some (.bool true) := g1
                    clear g1
                    have hb : onL7.isNone = true := by rw [← HONL7.out]; rfl
                    have hWM := HWN.out
                    rw [hb] at hWM
                    have HWM := Lib.hid hWM
                    clear hb hWM
                    go_wp2_with fail
                    rw [HWM.out]
                    clear e0 e1' e2 g0 g1' g2
                    have HD := Lib.hid (rfdone_ok p _ onL7 WL7 HSL7.out.rf)
                    have HO := Lib.hid (out_commit HR2.out HQL3.out HR6.out (tail1 (y := ([] ++ [a4] ++ [a5] ++ [a6])) (show (([] ++ [a4] ++ [a5] ++ [a6]) : List Int).getD 2 0 = 1 from HK1.out) (out_path HON.out HQL7.out)))
                    have HF := Lib.hid (Out.full HO.out)
                    obtain ⟨x, hx⟩ : ∃ x, cm1 ([] ++ [a1] ++ [a2]) psL3 ([] ++ [a4] ++ [a5] ++ [a6]) s psL7 = x := ⟨_, rfl⟩
                    obtain ⟨P, hP⟩ : ∃ P : CP, ⟨AL3, psL3.length, dL3, B, s.un.length, d, AL7, psL7.length, dL7⟩ = P := ⟨_, rfl⟩
                    have hx9 : Bx WL7 z 13 (cmf x P) 72 := by
                      refine ⟨fun j hj => (HSL7.out.bz.cell j hj).trans ?_, HSL7.out.bz.fr, HSL7.out.bz.ty, HSL7.out.bz.bit⟩
                      rw [← hx, ← hP, ← HFL7.out, ← HF3.out, ← HF2.out, ← HFL3.out, ← HF1.out]
                      match j, hj with
                      | 0, _ => rfl | 1, _ => rfl | 2, _ => rfl | 3, _ => rfl | 4, _ => rfl | 5, _ => rfl | 6, _ => rfl | 7, _ => rfl | 8, _ => rfl | 9, _ => rfl | 10, _ => rfl | 11, _ => rfl | 12, _ => rfl
                      | j + 13, h => exact absurd h (by omega)
                    have hxr : CRows WL7 x P := by
                      rw [← hx, ← hP]
                      exact ⟨by obtain ⟨b, cs, q1, q2⟩ := R1.out; exact ⟨b, cs, q1, q2⟩, rfl, UN.out, rfl, by obtain ⟨b, cs, q1, q2⟩ := R2.out; exact ⟨b, cs, q1, q2⟩, rfl⟩
                    rw [hx] at HF
                    have HX9 := Lib.hid hx9; have HXR := Lib.hid hxr
                    clear hx hP hx9 hxr
                    have hg2 := HSL7.out.bg
                    obtain ⟨dn, hdn⟩ : ∃ dn, doneO onL7 = dn := ⟨_, rfl⟩
                    rw [hdn] at HD HF
                    clear hdn
                    cases dn
                    · have HL := Lib.hid (hg2.sets (g := cf0) zcm.toList rfl (fun j hj => by have := zcm_f j hj; simpa using this))
                      have HFIN := Lib.hid (HSL7.out.lays zcm.toList)
                      have u0 := hg2.cell 0 (by omega); have u1 := hg2.cell 1 (by omega); have u2 := hg2.cell 2 (by omega); have u3 := hg2.cell 3 (by omega); have u4 := hg2.cell 4 (by omega); have u5 := hg2.cell 5 (by omega); have u6 := hg2.cell 6 (by omega); have u7 := hg2.cell 7 (by omega); have u8 := hg2.cell 8 (by omega); have u9 := hg2.cell 9 (by omega); have u10 := hg2.cell 10 (by omega); have u11 := hg2.cell 11 (by omega); have u12 := hg2.cell 12 (by omega)
                      have x0 := hg2.fr 0; have x1 := hg2.fr 1; have x2 := hg2.fr 2; have x3 := hg2.fr 3; have x4 := hg2.fr 4; have x5 := hg2.fr 5; have x6 := hg2.fr 6; have x7 := hg2.fr 7; have x8 := hg2.fr 8; have x9 := hg2.fr 9; have x10 := hg2.fr 10; have x11 := hg2.fr 11; have x12 := hg2.fr 12
                      clear hg2
                      refine HD.out.mono ?_
                      rintro e w9 ⟨rfl, rfl⟩
                      go_wp2_with fail
                      refine (show bodyPost Try.prog Try.f50 (CmEnd (full rCommit l) w) Exit.ret _ (WL7.setCells g 0 zcm.toList) from ?_)
                      have l0 := HL.out.cell 0 (by omega); have l1 := HL.out.cell 1 (by omega); have l2 := HL.out.cell 2 (by omega); have l3 := HL.out.cell 3 (by omega); have l4 := HL.out.cell 4 (by omega); have l5 := HL.out.cell 5 (by omega); have l6 := HL.out.cell 6 (by omega); have l7 := HL.out.cell 7 (by omega); have l8 := HL.out.cell 8 (by omega); have l9 := HL.out.cell 9 (by omega); have l10 := HL.out.cell 10 (by omega); have l11 := HL.out.cell 11 (by omega); have l12 := HL.out.cell 12 (by omega)
                      simp only [cf0, cmf, cm00, cp00] at l0 l1 l2 l3 l4 l5 l6 l7 l8 l9 l10 l11 l12
                      generalize WL7.setCells g 0 zcm.toList = w9 at *
                      simp [bodyPost, results, Try.results50, go_sem, l0, l1, l2, l3, l4, l5, l6, l7, l8, l9, l10, l11, l12]
                      exact ⟨.inr ⟨HF.out, rfl⟩, HFIN.out⟩
                    · have HL := Lib.hid (hg2.sets (cc x P).toList rfl (cc_f x P))
                      have HFIN := Lib.hid (HSL7.out.lays (cc x P).toList)
                      have hT9 := HXR.out.kx (KX.lays WL7 g (cc x P).toList) (fun b e => ⟨72, by decide, by decide, by decide, by subst e; exact hg2.ty⟩)
                      have HT99 := Lib.hid hT9
                      have c0 := HX9.out.cell 0 (by omega); have c1 := HX9.out.cell 1 (by omega); have c2 := HX9.out.cell 2 (by omega); have c3 := HX9.out.cell 3 (by omega); have c4 := HX9.out.cell 4 (by omega); have c5 := HX9.out.cell 5 (by omega); have c6 := HX9.out.cell 6 (by omega); have c7 := HX9.out.cell 7 (by omega); have c8 := HX9.out.cell 8 (by omega); have c9 := HX9.out.cell 9 (by omega); have c10 := HX9.out.cell 10 (by omega); have c11 := HX9.out.cell 11 (by omega); have c12 := HX9.out.cell 12 (by omega)
                      simp only [cmf] at c0 c1 c2 c3 c4 c5 c6 c7 c8 c9 c10 c11 c12
                      have u0 := hg2.cell 0 (by omega); have u1 := hg2.cell 1 (by omega); have u2 := hg2.cell 2 (by omega); have u3 := hg2.cell 3 (by omega); have u4 := hg2.cell 4 (by omega); have u5 := hg2.cell 5 (by omega); have u6 := hg2.cell 6 (by omega); have u7 := hg2.cell 7 (by omega); have u8 := hg2.cell 8 (by omega); have u9 := hg2.cell 9 (by omega); have u10 := hg2.cell 10 (by omega); have u11 := hg2.cell 11 (by omega); have u12 := hg2.cell 12 (by omega)
                      have x0 := hg2.fr 0; have x1 := hg2.fr 1; have x2 := hg2.fr 2; have x3 := hg2.fr 3; have x4 := hg2.fr 4; have x5 := hg2.fr 5; have x6 := hg2.fr 6; have x7 := hg2.fr 7; have x8 := hg2.fr 8; have x9 := hg2.fr 9; have x10 := hg2.fr 10; have x11 := hg2.fr 11; have x12 := hg2.fr 12
                      clear hg2 hT9
                      refine HD.out.mono ?_
                      rintro e w9 ⟨rfl, rfl⟩
                      go_wp2_with fail
                      refine (show bodyPost Try.prog Try.f50 (CmEnd (full rCommit l) w) Exit.ret _ (WL7.setCells g 0 (cc x P).toList) from ?_)
                      have l0 := HL.out.cell 0 (by omega); have l1 := HL.out.cell 1 (by omega); have l2 := HL.out.cell 2 (by omega); have l3 := HL.out.cell 3 (by omega); have l4 := HL.out.cell 4 (by omega); have l5 := HL.out.cell 5 (by omega); have l6 := HL.out.cell 6 (by omega); have l7 := HL.out.cell 7 (by omega); have l8 := HL.out.cell 8 (by omega); have l9 := HL.out.cell 9 (by omega); have l10 := HL.out.cell 10 (by omega); have l11 := HL.out.cell 11 (by omega); have l12 := HL.out.cell 12 (by omega)
                      simp only [cmf] at l0 l1 l2 l3 l4 l5 l6 l7 l8 l9 l10 l11 l12
                      generalize WL7.setCells g 0 (cc x P).toList = w9 at *
                      simp [bodyPost, results, Try.results50, go_sem, l0, l1, l2, l3, l4, l5, l6, l7, l8, l9, l10, l11, l12]
                      exact ⟨.inl ⟨x, P, HF.out, rfl, HT99.out.mem⟩, HFIN.out⟩
                  · have g1' : wr.cell? ⟨qL7, 1, none⟩ = some (.bool false) := g1
                    clear g1
                    have hb : onL7.isNone = false := by rw [← HONL7.out]; rfl
                    have hWM := HWN.out
                    rw [hb] at hWM
                    have HWM := Lib.hid hWM
                    clear hb hWM
                    go_wp2_with fail
                    rw [HWM.out]
                    clear e0 e1' e2 g0 g1' g2
                    have HD := Lib.hid (rfdone_ok p _ onL7 WL7 HSL7.out.rf)
                    have HO := Lib.hid (out_commit HR2.out HQL3.out HR6.out (tail1 (y := ([] ++ [a4] ++ [a5] ++ [a6])) (show (([] ++ [a4] ++ [a5] ++ [a6]) : List Int).getD 2 0 = 1 from HK1.out) (out_path HON.out HQL7.out)))
                    have HF := Lib.hid (Out.full HO.out)
                    obtain ⟨x, hx⟩ : ∃ x, cm1 ([] ++ [a1] ++ [a2]) psL3 ([] ++ [a4] ++ [a5] ++ [a6]) s psL7 = x := ⟨_, rfl⟩
                    obtain ⟨P, hP⟩ : ∃ P : CP, ⟨AL3, psL3.length, dL3, B, s.un.length, d, AL7, psL7.length, dL7⟩ = P := ⟨_, rfl⟩
                    have hx9 : Bx WL7 z 13 (cmf x P) 72 := by
                      refine ⟨fun j hj => (HSL7.out.bz.cell j hj).trans ?_, HSL7.out.bz.fr, HSL7.out.bz.ty, HSL7.out.bz.bit⟩
                      rw [← hx, ← hP, ← HFL7.out, ← HF3.out, ← HF2.out, ← HFL3.out, ← HF1.out]
                      match j, hj with
                      | 0, _ => rfl | 1, _ => rfl | 2, _ => rfl | 3, _ => rfl | 4, _ => rfl | 5, _ => rfl | 6, _ => rfl | 7, _ => rfl | 8, _ => rfl | 9, _ => rfl | 10, _ => rfl | 11, _ => rfl | 12, _ => rfl
                      | j + 13, h => exact absurd h (by omega)
                    have hxr : CRows WL7 x P := by
                      rw [← hx, ← hP]
                      exact ⟨by obtain ⟨b, cs, q1, q2⟩ := R1.out; exact ⟨b, cs, q1, q2⟩, rfl, UN.out, rfl, by obtain ⟨b, cs, q1, q2⟩ := R2.out; exact ⟨b, cs, q1, q2⟩, rfl⟩
                    rw [hx] at HF
                    have HX9 := Lib.hid hx9; have HXR := Lib.hid hxr
                    clear hx hP hx9 hxr
                    have hg2 := HSL7.out.bg
                    obtain ⟨dn, hdn⟩ : ∃ dn, doneO onL7 = dn := ⟨_, rfl⟩
                    rw [hdn] at HD HF
                    clear hdn
                    cases dn
                    · have HL := Lib.hid (hg2.sets (g := cf0) zcm.toList rfl (fun j hj => by have := zcm_f j hj; simpa using this))
                      have HFIN := Lib.hid (HSL7.out.lays zcm.toList)
                      have u0 := hg2.cell 0 (by omega); have u1 := hg2.cell 1 (by omega); have u2 := hg2.cell 2 (by omega); have u3 := hg2.cell 3 (by omega); have u4 := hg2.cell 4 (by omega); have u5 := hg2.cell 5 (by omega); have u6 := hg2.cell 6 (by omega); have u7 := hg2.cell 7 (by omega); have u8 := hg2.cell 8 (by omega); have u9 := hg2.cell 9 (by omega); have u10 := hg2.cell 10 (by omega); have u11 := hg2.cell 11 (by omega); have u12 := hg2.cell 12 (by omega)
                      have x0 := hg2.fr 0; have x1 := hg2.fr 1; have x2 := hg2.fr 2; have x3 := hg2.fr 3; have x4 := hg2.fr 4; have x5 := hg2.fr 5; have x6 := hg2.fr 6; have x7 := hg2.fr 7; have x8 := hg2.fr 8; have x9 := hg2.fr 9; have x10 := hg2.fr 10; have x11 := hg2.fr 11; have x12 := hg2.fr 12
                      clear hg2
                      refine HD.out.mono ?_
                      rintro e w9 ⟨rfl, rfl⟩
                      go_wp2_with fail
                      refine (show bodyPost Try.prog Try.f50 (CmEnd (full rCommit l) w) Exit.ret _ (WL7.setCells g 0 zcm.toList) from ?_)
                      have l0 := HL.out.cell 0 (by omega); have l1 := HL.out.cell 1 (by omega); have l2 := HL.out.cell 2 (by omega); have l3 := HL.out.cell 3 (by omega); have l4 := HL.out.cell 4 (by omega); have l5 := HL.out.cell 5 (by omega); have l6 := HL.out.cell 6 (by omega); have l7 := HL.out.cell 7 (by omega); have l8 := HL.out.cell 8 (by omega); have l9 := HL.out.cell 9 (by omega); have l10 := HL.out.cell 10 (by omega); have l11 := HL.out.cell 11 (by omega); have l12 := HL.out.cell 12 (by omega)
                      simp only [cf0, cmf, cm00, cp00] at l0 l1 l2 l3 l4 l5 l6 l7 l8 l9 l10 l11 l12
                      generalize WL7.setCells g 0 zcm.toList = w9 at *
                      simp [bodyPost, results, Try.results50, go_sem, l0, l1, l2, l3, l4, l5, l6, l7, l8, l9, l10, l11, l12]
                      exact ⟨.inr ⟨HF.out, rfl⟩, HFIN.out⟩
                    · have HL := Lib.hid (hg2.sets (cc x P).toList rfl (cc_f x P))
                      have HFIN := Lib.hid (HSL7.out.lays (cc x P).toList)
                      have hT9 := HXR.out.kx (KX.lays WL7 g (cc x P).toList) (fun b e => ⟨72, by decide, by decide, by decide, by subst e; exact hg2.ty⟩)
                      have HT99 := Lib.hid hT9
                      have c0 := HX9.out.cell 0 (by omega); have c1 := HX9.out.cell 1 (by omega); have c2 := HX9.out.cell 2 (by omega); have c3 := HX9.out.cell 3 (by omega); have c4 := HX9.out.cell 4 (by omega); have c5 := HX9.out.cell 5 (by omega); have c6 := HX9.out.cell 6 (by omega); have c7 := HX9.out.cell 7 (by omega); have c8 := HX9.out.cell 8 (by omega); have c9 := HX9.out.cell 9 (by omega); have c10 := HX9.out.cell 10 (by omega); have c11 := HX9.out.cell 11 (by omega); have c12 := HX9.out.cell 12 (by omega)
                      simp only [cmf] at c0 c1 c2 c3 c4 c5 c6 c7 c8 c9 c10 c11 c12
                      have u0 := hg2.cell 0 (by omega); have u1 := hg2.cell 1 (by omega); have u2 := hg2.cell 2 (by omega); have u3 := hg2.cell 3 (by omega); have u4 := hg2.cell 4 (by omega); have u5 := hg2.cell 5 (by omega); have u6 := hg2.cell 6 (by omega); have u7 := hg2.cell 7 (by omega); have u8 := hg2.cell 8 (by omega); have u9 := hg2.cell 9 (by omega); have u10 := hg2.cell 10 (by omega); have u11 := hg2.cell 11 (by omega); have u12 := hg2.cell 12 (by omega)
                      have x0 := hg2.fr 0; have x1 := hg2.fr 1; have x2 := hg2.fr 2; have x3 := hg2.fr 3; have x4 := hg2.fr 4; have x5 := hg2.fr 5; have x6 := hg2.fr 6; have x7 := hg2.fr 7; have x8 := hg2.fr 8; have x9 := hg2.fr 9; have x10 := hg2.fr 10; have x11 := hg2.fr 11; have x12 := hg2.fr 12
                      clear hg2 hT9
                      refine HD.out.mono ?_
                      rintro e w9 ⟨rfl, rfl⟩
                      go_wp2_with fail
                      refine (show bodyPost Try.prog Try.f50 (CmEnd (full rCommit l) w) Exit.ret _ (WL7.setCells g 0 (cc x P).toList) from ?_)
                      have l0 := HL.out.cell 0 (by omega); have l1 := HL.out.cell 1 (by omega); have l2 := HL.out.cell 2 (by omega); have l3 := HL.out.cell 3 (by omega); have l4 := HL.out.cell 4 (by omega); have l5 := HL.out.cell 5 (by omega); have l6 := HL.out.cell 6 (by omega); have l7 := HL.out.cell 7 (by omega); have l8 := HL.out.cell 8 (by omega); have l9 := HL.out.cell 9 (by omega); have l10 := HL.out.cell 10 (by omega); have l11 := HL.out.cell 11 (by omega); have l12 := HL.out.cell 12 (by omega)
                      simp only [cmf] at l0 l1 l2 l3 l4 l5 l6 l7 l8 l9 l10 l11 l12
                      generalize WL7.setCells g 0 (cc x P).toList = w9 at *
                      simp [bodyPost, results, Try.results50, go_sem, l0, l1, l2, l3, l4, l5, l6, l7, l8, l9, l10, l11, l12]
                      exact ⟨.inl ⟨x, P, HF.out, rfl, HT99.out.mem⟩, HFIN.out⟩
              · rcases ov with _ | lv
                · cases hm
                · have hlv : lv ≠ [] := by intro e; subst e; cases hm
                  have HLV := Lib.hid hlv
                  have HLA := Lib.hid (liveAt_of hv)
                  have HTQ := Lib.hid hv.isT
                  have hqs : qL7 < wr.heap.size := hv.bit
                  clear hlv hm
                  have HC0 := Lib.hid (rfint_ok qL7 _ (some lv) wr hv (.inr (Nat.le_refl _)))
                  go_wp2_with (go_at_call 88; refine HM.out.mono ?_; rintro e w9 ⟨rfl, rfl⟩)
                  refine HC0.out.mono ?_
                  rintro e u0 ⟨b0, vv, oo0, rfl, rfl, f3, f4, f5⟩
                  obtain ⟨h, hh⟩ : ∃ h, u0.heap.size = h := ⟨_, rfl⟩
                  obtain ⟨ua, hua⟩ : ∃ ua, u0.alloc (.cells #[.int .i64 b0, .slice none 0 0] 111) = ua := ⟨_, rfl⟩
                  have hBa : Below u0.heap.size u0 ua := by rw [← hua]; exact nxa (Below.refl _ _) _
                  have hqu : qL7 < u0.heap.size := f4.bit
                  have hsu := f5.size
                  have hbx : Bx ua h 2 (fun j => if j = 0 then Value.int .i64 b0 else .slice none 0 0) 111 := Bx.of (by rw [← hua, ← hh]; exact heap_alloc_new _ _) (fun j hj => by
                    match j, hj with
                    | 0, _ => rfl | 1, _ => rfl
                    | j + 2, h => exact absurd h (by omega))
                  have HPS : Hid (PS (inq tn qL7) qL7 h 2 111 ua oo0 (fun j => if j = 0 then Value.int .i64 b0 else .slice none 0 0) ua) := Lib.hid ⟨hbx, f4.below hBa, KX.refl _ _, .inr (by omega), by omega⟩
                  have HUA := Lib.hid hua; have HBA := Lib.hid hBa; have HK0 := Lib.hid f5; have HQ0 := Lib.hid f3
                  clear hua hBa hbx hv f3 f4 f5
                  have HC1 := Lib.hid (rfints_ok qL7 _ oo0 ua HPS.out.rf (.inr (Nat.le_refl _)))
                  go_wp2_with fail
                  rw [HUA.out]
                  refine HC1.out.mono ?_
                  rintro e u1 ⟨un, vv, oo1, rfl, ⟨B, d, rfl, hU⟩, f3, f4, f5⟩
                  have hN := HPS.out.call f5 f4
                  have c1 := hN.bx.cell 1 (by omega)
                  have z1 := hN.bx.fr 1
                  have hN2 := hN.set (j := 1) (by omega) (.slice B un.length d)
                  obtain ⟨y1, hy1⟩ : ∃ t, u1.setCell ⟨h, 1, none⟩ (.slice B un.length d) = t := ⟨_, rfl⟩
                  have hk2 : KX (· = h) u1 y1 := by rw [← hy1]; exact (KX.refl (· = h) u1).set ⟨h, 1, none⟩ _ (.inl rfl)
                  have HU := Lib.hid (hU.k3 (K3.kx hk2 (fun b e => by subst e; exact ⟨111, by decide, hN.bx.ty⟩)))
                  rw [hy1] at hN2
                  have HY1 := Lib.hid hy1; have HP1 := Lib.hid hN2
                  have HOUT := Lib.hid (out_pn HQ0.out f3)
                  clear hk2 hy1 f3 f4 f5 hN hN2 hU
                  have hKu : KX (fun b => b = qL7 ∨ b = h) u0 y1 := (KX.of (X := fun b => b = qL7 ∨ b = h) HBA.out).trans HP1.out.kx
                  have hKw : KX (fun b => b = qL7) wr y1 := HK0.out.next hKu (fun i e => by rcases e with e | e; exact .inl e; exact .inr (by omega))
                  obtain ⟨A, dd, cs, i1, i2, i3, i4⟩ := HI.out
                  have hE1 := i4.keep (QE.k3 (K3.kx hKw (fun b e => by subst e; exact ⟨101, by decide, HTQ.out⟩)))
                  have hO1 := i3.kx hKw (fun i e => by have := i3.inb e; show ¬ (i = qL7); omega)
                  have hZ1 := HZ.out.kx hKw (by show ¬ (z = qL7); omega)
                  have cz := hKw.cell i1 (by show ¬ (z = qL7); omega)
                  have zz := hZ1.fr 10
                  have hqy : qL7 + 1 ≤ y1.heap.size := by have := HP1.out.rf.bit; omega
                  have w0_ : y1.cell? ⟨h, 0, none⟩ = some (.int .i64 b0) := HP1.out.bx.cell 0 (by omega)
                  have w1_ : y1.cell? ⟨h, 1, none⟩ = some (.slice B un.length d) := HP1.out.bx.cell 1 (by omega)
                  obtain ⟨ob, hob⟩ : ∃ o : Obj, Obj.cells #[.int .i64 b0, .slice B un.length d] 111 = o := ⟨_, rfl⟩
                  have hsy : y1.heap.size = u1.heap.size := by rw [← HY1.out]; simp [World.setCell]
                  have hly : Lies (y1.alloc ob) (some ⟨u1.heap.size, 0, none⟩) (ql ⟨b0, un⟩ B d) := by rw [← hob, ← hsy]; exact lies_cells y1 _ 111
                  have hOa := hO1.alloc ob
                  have hb2 : qL7 + 1 ≤ (y1.alloc ob).heap.size := by simp; omega
                  have hBal : Below y1.heap.size y1 (y1.alloc ob) := nxa (Below.refl _ _) _
                  have cza := (KX.of (X := fun _ => False) hBal).cell cz (fun e => e)
                  have zza := (KX.of (X := fun _ => False) hBal).frz zz (fun e => e) (World.block_lt_of_cell? _ _ cz)
                  have HCZ := Lib.hid cza; have HZZ := Lib.hid zza; have HOA := Lib.hid hOa; have HLY := Lib.hid hly; have HB2 := Lib.hid hb2; have HOO := Lib.hid hob
                  have HE4 := Lib.hid hE1; have HO4 := Lib.hid hO1; have HZ4 := Lib.hid hZ1; have HKW := Lib.hid hKw
                  rw [← HY1.out] at cz zz w0_ w1_
                  clear hsy i1 i2 i3 i4 hE1 hO1 hZ1 hly hOa hb2 hBal cza zza hob hKw hKu
                  go_wp2_with (at_builtin; rw [HY1.out, HOO.out]; refine wpList_app (o := ⟨some 94, _, _, _, _, _⟩) E68 rfl rfl rfl HOA.out rfl HLY.out rfl (ql_one ⟨b0, un⟩ B d) (by have := HB.out; have := HXL7.out; unfold maxLen; omega) (by have := HB.out; have := HXL7.out; omega) HB2.out ?_; intro A5 c5 w6 hO6 hG6 hB6; have c6 := (hB6.cell (p := ⟨z, 10, none⟩) (show z < qL7 + 1 by omega)).trans HCZ.out; have z6 := (hB6.frozen (p := ⟨z, 10, none⟩) (show z < qL7 + 1 by omega)).trans HZZ.out)
                  obtain ⟨j1, j2, j3⟩ := IE.put (s := (⟨b0, un⟩ : PN)) (v := ql ⟨b0, un⟩ B d) hzqL7 HE4.out ⟨B, d, rfl, HU.out⟩ (fun _ _ => QE.k3) HO4.out (by decide) hO6 hG6 hB6 c6 z6 HZ4.out (by decide)
                  have hrf := HP1.out.rf.kx j3 (fun i e _ => by rcases e with e | e; exact .inl (by omega); exact .inr (by omega)) (by show ¬ (qL7 = z ∨ qL7 + 1 ≤ qL7); omega)
                  have hrm := remO_step (fun _ _ _ e => rPN_less e) HOUT.out
                  go_roundw
                  case rel =>
                    refine ⟨acc ++ [⟨b0, un⟩], oo1, Lib.hid (HL.out.step HLV.out (fun _ _ _ e => rPN_less e) HOUT.out), hrf, Lib.hid j1, Lib.hid j2, Lib.hid ?_, Lib.hid (by have := HB.out; rw [List.length_append, List.length_singleton]; omega)⟩
                    exact (HK.out.next HKW.out (fun i e => .inl (.inr e))).next j3 (fun i e => by rcases e with e | e; exact .inl (.inl e); exact .inr (by omega))
                  case measure => rw [liveAt_of hrf, HLA.out]; exact hrm
          · have t1 : (a6 == 1) = false := by rw [beq_eq_false_iff_ne]; exact k1
            have HKX := Lib.hid (And.intro k0 k1)
            clear k0 k1
            obtain ⟨G9, m9, k9, e0, e1, e2⟩ := HS6.out.rf.cells
            have hN := HS6.out.mark (o2 := none) (.inl rfl)
            obtain ⟨wm, hwm⟩ : ∃ wm, v6.setCell ⟨p, 1, none⟩ (.bool true) = wm := ⟨_, rfl⟩
            have hpt : KX (· = p) v6 wm := by rw [← hwm]; exact (KX.refl (· = p) v6).set ⟨p, 1, none⟩ _ (.inl rfl)
            replace R1 := Lib.hid (RowE.kx R1.out (fun _ _ => PE.k3) hpt (fun b e => by subst e; exact ⟨101, by decide, by decide, HS6.out.rf.isT⟩))
            have HSX : Hid (WS 13 72 cf0 w g p z none F2 wm) := Lib.hid (by rw [← hwm]; exact hN)
            have HWM := Lib.hid hwm
            clear hN hpt hwm e0
            go_wp2_with fail
            rw [HWM.out]
            clear e1 e2
            have HD := Lib.hid (rfdone_ok p _ none wm HSX.out.rf)
            have HO := Lib.hid (out_commit HR2.out HQL3.out HR6.out (tailX (y := ([] ++ [a4] ++ [a5] ++ [a6])) (show (([] ++ [a4] ++ [a5] ++ [a6]) : List Int).getD 2 0 ≠ 0 from HKX.out.1) (show (([] ++ [a4] ++ [a5] ++ [a6]) : List Int).getD 2 0 ≠ 1 from HKX.out.2) _ (cm0 ([] ++ [a1] ++ [a2]) psL3 ([] ++ [a4] ++ [a5] ++ [a6]))))
            have HF := Lib.hid (Out.full HO.out)
            obtain ⟨x, hx⟩ : ∃ x, cm0 ([] ++ [a1] ++ [a2]) psL3 ([] ++ [a4] ++ [a5] ++ [a6]) = x := ⟨_, rfl⟩
            obtain ⟨P, hP⟩ : ∃ P : CP, ⟨AL3, psL3.length, dL3, none, 0, 0, none, 0, 0⟩ = P := ⟨_, rfl⟩
            have hx9 : Bx wm z 13 (cmf x P) 72 := by
              refine ⟨fun j hj => (HSX.out.bz.cell j hj).trans ?_, HSX.out.bz.fr, HSX.out.bz.ty, HSX.out.bz.bit⟩
              rw [← hx, ← hP, ← HF2.out, ← HFL3.out, ← HF1.out]
              match j, hj with
              | 0, _ => rfl | 1, _ => rfl | 2, _ => rfl | 3, _ => rfl | 4, _ => rfl | 5, _ => rfl | 6, _ => rfl | 7, _ => rfl | 8, _ => rfl | 9, _ => rfl | 10, _ => rfl | 11, _ => rfl | 12, _ => rfl
              | j + 13, h => exact absurd h (by omega)
            have hxr : CRows wm x P := by
              rw [← hx, ← hP]
              exact ⟨by obtain ⟨b, cs, q1, q2⟩ := R1.out; exact ⟨b, cs, q1, q2⟩, rfl, UO.none _, rfl, ⟨0, [], Ow.nil _ _ _ _, rfl⟩, rfl⟩
            rw [hx] at HF
            have HX9 := Lib.hid hx9; have HXR := Lib.hid hxr
            clear hx hP hx9 hxr
            have hg2 := HSX.out.bg
            obtain ⟨dn, hdn⟩ : ∃ dn, doneO none = dn := ⟨_, rfl⟩
            rw [hdn] at HD HF
            clear hdn
            cases dn
            · have HL := Lib.hid (hg2.sets (g := cf0) zcm.toList rfl (fun j hj => by have := zcm_f j hj; simpa using this))
              have HFIN := Lib.hid (HSX.out.lays zcm.toList)
              have u0 := hg2.cell 0 (by omega); have u1 := hg2.cell 1 (by omega); have u2 := hg2.cell 2 (by omega); have u3 := hg2.cell 3 (by omega); have u4 := hg2.cell 4 (by omega); have u5 := hg2.cell 5 (by omega); have u6 := hg2.cell 6 (by omega); have u7 := hg2.cell 7 (by omega); have u8 := hg2.cell 8 (by omega); have u9 := hg2.cell 9 (by omega); have u10 := hg2.cell 10 (by omega); have u11 := hg2.cell 11 (by omega); have u12 := hg2.cell 12 (by omega)
              have x0 := hg2.fr 0; have x1 := hg2.fr 1; have x2 := hg2.fr 2; have x3 := hg2.fr 3; have x4 := hg2.fr 4; have x5 := hg2.fr 5; have x6 := hg2.fr 6; have x7 := hg2.fr 7; have x8 := hg2.fr 8; have x9 := hg2.fr 9; have x10 := hg2.fr 10; have x11 := hg2.fr 11; have x12 := hg2.fr 12
              clear hg2
              refine HD.out.mono ?_
              rintro e w9 ⟨rfl, rfl⟩
              go_wp2_with fail
              refine (show bodyPost Try.prog Try.f50 (CmEnd (full rCommit l) w) Exit.ret _ (wm.setCells g 0 zcm.toList) from ?_)
              have l0 := HL.out.cell 0 (by omega); have l1 := HL.out.cell 1 (by omega); have l2 := HL.out.cell 2 (by omega); have l3 := HL.out.cell 3 (by omega); have l4 := HL.out.cell 4 (by omega); have l5 := HL.out.cell 5 (by omega); have l6 := HL.out.cell 6 (by omega); have l7 := HL.out.cell 7 (by omega); have l8 := HL.out.cell 8 (by omega); have l9 := HL.out.cell 9 (by omega); have l10 := HL.out.cell 10 (by omega); have l11 := HL.out.cell 11 (by omega); have l12 := HL.out.cell 12 (by omega)
              simp only [cf0, cmf, cm00, cp00] at l0 l1 l2 l3 l4 l5 l6 l7 l8 l9 l10 l11 l12
              generalize wm.setCells g 0 zcm.toList = w9 at *
              simp [bodyPost, results, Try.results50, go_sem, l0, l1, l2, l3, l4, l5, l6, l7, l8, l9, l10, l11, l12]
              exact ⟨.inr ⟨HF.out, rfl⟩, HFIN.out⟩
            · have HL := Lib.hid (hg2.sets (cc x P).toList rfl (cc_f x P))
              have HFIN := Lib.hid (HSX.out.lays (cc x P).toList)
              have hT9 := HXR.out.kx (KX.lays wm g (cc x P).toList) (fun b e => ⟨72, by decide, by decide, by decide, by subst e; exact hg2.ty⟩)
              have HT99 := Lib.hid hT9
              have c0 := HX9.out.cell 0 (by omega); have c1 := HX9.out.cell 1 (by omega); have c2 := HX9.out.cell 2 (by omega); have c3 := HX9.out.cell 3 (by omega); have c4 := HX9.out.cell 4 (by omega); have c5 := HX9.out.cell 5 (by omega); have c6 := HX9.out.cell 6 (by omega); have c7 := HX9.out.cell 7 (by omega); have c8 := HX9.out.cell 8 (by omega); have c9 := HX9.out.cell 9 (by omega); have c10 := HX9.out.cell 10 (by omega); have c11 := HX9.out.cell 11 (by omega); have c12 := HX9.out.cell 12 (by omega)
              simp only [cmf] at c0 c1 c2 c3 c4 c5 c6 c7 c8 c9 c10 c11 c12
              have u0 := hg2.cell 0 (by omega); have u1 := hg2.cell 1 (by omega); have u2 := hg2.cell 2 (by omega); have u3 := hg2.cell 3 (by omega); have u4 := hg2.cell 4 (by omega); have u5 := hg2.cell 5 (by omega); have u6 := hg2.cell 6 (by omega); have u7 := hg2.cell 7 (by omega); have u8 := hg2.cell 8 (by omega); have u9 := hg2.cell 9 (by omega); have u10 := hg2.cell 10 (by omega); have u11 := hg2.cell 11 (by omega); have u12 := hg2.cell 12 (by omega)
              have x0 := hg2.fr 0; have x1 := hg2.fr 1; have x2 := hg2.fr 2; have x3 := hg2.fr 3; have x4 := hg2.fr 4; have x5 := hg2.fr 5; have x6 := hg2.fr 6; have x7 := hg2.fr 7; have x8 := hg2.fr 8; have x9 := hg2.fr 9; have x10 := hg2.fr 10; have x11 := hg2.fr 11; have x12 := hg2.fr 12
              clear hg2 hT9
              refine HD.out.mono ?_
              rintro e w9 ⟨rfl, rfl⟩
              go_wp2_with fail
              refine (show bodyPost Try.prog Try.f50 (CmEnd (full rCommit l) w) Exit.ret _ (wm.setCells g 0 (cc x P).toList) from ?_)
              have l0 := HL.out.cell 0 (by omega); have l1 := HL.out.cell 1 (by omega); have l2 := HL.out.cell 2 (by omega); have l3 := HL.out.cell 3 (by omega); have l4 := HL.out.cell 4 (by omega); have l5 := HL.out.cell 5 (by omega); have l6 := HL.out.cell 6 (by omega); have l7 := HL.out.cell 7 (by omega); have l8 := HL.out.cell 8 (by omega); have l9 := HL.out.cell 9 (by omega); have l10 := HL.out.cell 10 (by omega); have l11 := HL.out.cell 11 (by omega); have l12 := HL.out.cell 12 (by omega)
              simp only [cmf] at l0 l1 l2 l3 l4 l5 l6 l7 l8 l9 l10 l11 l12
              generalize wm.setCells g 0 (cc x P).toList = w9 at *
              simp [bodyPost, results, Try.results50, go_sem, l0, l1, l2, l3, l4, l5, l6, l7, l8, l9, l10, l11, l12]
              exact ⟨.inl ⟨x, P, HF.out, rfl, HT99.out.mem⟩, HFIN.out⟩
    · rcases ov with _ | lv
      · cases hm
      · have hlv : lv ≠ [] := by intro e; subst e; cases hm
        have HLV := Lib.hid hlv
        have HLA := Lib.hid (liveAt_of hv)
        have HTQ := Lib.hid hv.isT
        have hqs : qL3 < wr.heap.size := hv.bit
        obtain ⟨h, hh⟩ : ∃ h, wr.heap.size = h := ⟨_, rfl⟩
        obtain ⟨ua, hua⟩ : ∃ ua, wr.alloc (.cells #[.int .i64 0, .int .i64 0, .int .i64 0, .int .i64 0, .int .i64 0, .int .i64 0, .int .i64 0, .slice none 0 0, .int .i64 0, .int .i64 0] 109) = ua := ⟨_, rfl⟩
        have hBa : Below wr.heap.size wr ua := by rw [← hua]; exact nxa (Below.refl _ _) _
        have hbx : Bx ua h 10 pf0 109 := Bx.of (by rw [← hua, ← hh]; exact heap_alloc_new _ _) (fun j hj => by
          match j, hj with
          | 0, _ => rfl | 1, _ => rfl | 2, _ => rfl | 3, _ => rfl | 4, _ => rfl | 5, _ => rfl | 6, _ => rfl | 7, _ => rfl | 8, _ => rfl | 9, _ => rfl
          | j + 10, h => exact absurd h (by omega))
        have HPS : Hid (PS (inq t2 qL3) qL3 h 10 109 ua (some lv) pf0 ua) := Lib.hid ⟨hbx, hv.below hBa, KX.refl _ _, .inr (by omega), by omega⟩
        have HUA := Lib.hid hua; have HBA := Lib.hid hBa
        clear hua hBa hbx hlv hv hm
        go_wp2_with (go_at_call 88; refine HM.out.mono ?_; rintro e w9 ⟨rfl, rfl⟩)
        rw [HUA.out]
        have HC0 := Lib.hid (rfint_ok qL3 _ (some lv) ua HPS.out.rf (.inr (Nat.le_refl _)))
        refine HC0.out.mono ?_
        rintro e u0 ⟨b0, vv, oo0, rfl, rfl, f3, f4, f5⟩
        have hR := Rd.snoc (Rd.zero (some lv)) f3
        have hN := HPS.out.call f5 f4
        have c0 := hN.bx.cell 0 (by omega)
        have z0 := hN.bx.fr 0
        have hN2 := hN.set (j := 0) (by omega) (.int .i64 b0)
        obtain ⟨y0, hy0⟩ : ∃ y0, u0.setCell ⟨h, 0, none⟩ (.int .i64 b0) = y0 := ⟨_, rfl⟩
        have HY0 := Lib.hid hy0
        rw [hy0] at hN2
        have HP0 := Lib.hid hN2; have HQ0 := Lib.hid hR
        clear hy0 f3 f4 f5 hN hN2 hR
        go_wp2_with fail
        rw [HY0.out]
        clear c0 z0
        have HC1 := Lib.hid (rfint_ok qL3 _ oo0 y0 HP0.out.rf (.inr (Nat.le_refl _)))
        refine HC1.out.mono ?_
        rintro e u1 ⟨b1, vv, oo1, rfl, rfl, f3, f4, f5⟩
        have hR := Rd.snoc HQ0.out f3
        have hN := HP0.out.call f5 f4
        have c1 := hN.bx.cell 1 (by omega)
        have z1 := hN.bx.fr 1
        have hN2 := hN.set (j := 1) (by omega) (.int .i64 b1)
        obtain ⟨y1, hy1⟩ : ∃ y1, u1.setCell ⟨h, 1, none⟩ (.int .i64 b1) = y1 := ⟨_, rfl⟩
        have HY1 := Lib.hid hy1
        rw [hy1] at hN2
        have HP1 := Lib.hid hN2; have HQ1 := Lib.hid hR
        clear hy1 f3 f4 f5 hN hN2 hR
        go_wp2_with fail
        rw [HY1.out]
        clear c1 z1
        have HC2 := Lib.hid (rfnode_ok qL3 _ oo1 y1 HP1.out.rf (.inr (Nat.le_refl _)))
        refine HC2.out.mono ?_
        rintro e u2 ⟨s, vv, oo2, rfl, ⟨B, d, rfl, hU⟩, f3, f4, f5⟩
        have hN := HP1.out.call f5 f4
        have c2 := hN.bx.cell 2 (by omega); have c3 := hN.bx.cell 3 (by omega); have c4 := hN.bx.cell 4 (by omega); have c5 := hN.bx.cell 5 (by omega); have c6 := hN.bx.cell 6 (by omega); have c7 := hN.bx.cell 7 (by omega)
        have z2 := hN.bx.fr 2; have z3 := hN.bx.fr 3; have z4 := hN.bx.fr 4; have z5 := hN.bx.fr 5; have z6 := hN.bx.fr 6; have z7 := hN.bx.fr 7
        have hN2 := hN.setsAt [.int .i64 s.k, .int .i64 s.id, .int .i64 s.enc, .int .i64 s.sig, .int .i64 s.hash, .slice B s.un.length d] 2 (by simp)
        obtain ⟨y2, hy2⟩ : ∃ y2, (((((u2.setCell ⟨h, 2, none⟩ (.int .i64 s.k)).setCell ⟨h, 3, none⟩ (.int .i64 s.id)).setCell ⟨h, 4, none⟩ (.int .i64 s.enc)).setCell ⟨h, 5, none⟩ (.int .i64 s.sig)).setCell ⟨h, 6, none⟩ (.int .i64 s.hash)).setCell ⟨h, 7, none⟩ (.slice B s.un.length d) = y2 := ⟨_, rfl⟩
        rw [show u2.setCells h 2 [.int .i64 s.k, .int .i64 s.id, .int .i64 s.enc, .int .i64 s.sig, .int .i64 s.hash, .slice B s.un.length d] = y2 from hy2] at hN2
        have hk2 : KX (· = h) u2 y2 := by rw [← hy2]; exact KX.lays' u2 h 2 [.int .i64 s.k, .int .i64 s.id, .int .i64 s.enc, .int .i64 s.sig, .int .i64 s.hash, .slice B s.un.length d]
        have HU := Lib.hid (hU.k3 (K3.kx hk2 (fun b e => by subst e; exact ⟨109, by decide, hN.bx.ty⟩)))
        have HY2 := Lib.hid hy2
        have HP2 := Lib.hid hN2; have HQ2 := Lib.hid f3
        clear hy2 f3 f4 f5 hN hN2 hU hk2
        unfold nv
        go_wp2_with fail
        rw [HY2.out]
        clear c2 z2 c3 z3 c4 z4 c5 z5 c6 z6 c7 z7
        have HC3 := Lib.hid (rfint_ok qL3 _ oo2 y2 HP2.out.rf (.inr (Nat.le_refl _)))
        refine HC3.out.mono ?_
        rintro e u3 ⟨b3, vv, oo3, rfl, rfl, f3, f4, f5⟩
        have hR := Rd.snoc (Rd.zero oo2) f3
        have hN := HP2.out.call f5 f4
        have hun := HU.out.k3 (K3.kx f5 (fun b e => by subst e; exact ⟨101, by decide, HP2.out.rf.isT⟩))
        have c8 := hN.bx.cell 8 (by omega)
        have z8 := hN.bx.fr 8
        have hN2 := hN.set (j := 8) (by omega) (.int .i64 b3)
        obtain ⟨y3, hy3⟩ : ∃ y3, u3.setCell ⟨h, 8, none⟩ (.int .i64 b3) = y3 := ⟨_, rfl⟩
        have hk2 : KX (· = h) u3 y3 := by rw [← hy3]; exact (KX.refl (· = h) u3).set ⟨h, 8, none⟩ _ (.inl rfl)
        replace HU := Lib.hid (hun.k3 (K3.kx hk2 (fun b e => by subst e; exact ⟨109, by decide, hN.bx.ty⟩)))
        clear hun hk2
        have HY3 := Lib.hid hy3
        rw [hy3] at hN2
        have HP3 := Lib.hid hN2; have HQ3 := Lib.hid hR
        clear hy3 f3 f4 f5 hN hN2 hR
        go_wp2_with fail
        rw [HY3.out]
        clear c8 z8
        have HC4 := Lib.hid (rfint_ok qL3 _ oo3 y3 HP3.out.rf (.inr (Nat.le_refl _)))
        refine HC4.out.mono ?_
        rintro e u4 ⟨b4, vv, oo4, rfl, rfl, f3, f4, f5⟩
        have hR := Rd.snoc HQ3.out f3
        have hN := HP3.out.call f5 f4
        have hun := HU.out.k3 (K3.kx f5 (fun b e => by subst e; exact ⟨101, by decide, HP3.out.rf.isT⟩))
        have c9 := hN.bx.cell 9 (by omega)
        have z9 := hN.bx.fr 9
        have hN2 := hN.set (j := 9) (by omega) (.int .i64 b4)
        obtain ⟨y4, hy4⟩ : ∃ y4, u4.setCell ⟨h, 9, none⟩ (.int .i64 b4) = y4 := ⟨_, rfl⟩
        have hk2 : KX (· = h) u4 y4 := by rw [← hy4]; exact (KX.refl (· = h) u4).set ⟨h, 9, none⟩ _ (.inl rfl)
        replace HU := Lib.hid (hun.k3 (K3.kx hk2 (fun b e => by subst e; exact ⟨109, by decide, hN.bx.ty⟩)))
        clear hun hk2
        have HY4 := Lib.hid hy4
        rw [hy4] at hN2
        have HP4 := Lib.hid hN2; have HQ4 := Lib.hid hR
        clear hy4 f3 f4 f5 hN hN2 hR
        have HOUT := Lib.hid (out_prop HQ1.out HQ2.out HQ4.out)
        have hKw : KX (fun b => b = qL3 ∨ b = h) wr y4 := (KX.of (X := fun b => b = qL3 ∨ b = h) HBA.out).trans HP4.out.kx
        obtain ⟨A, dd, cs, i1, i2, i3, i4⟩ := HI.out
        have hX3 : ∀ b, (b = qL3 ∨ b = h) → ∃ T : TypeId, T ≠ 3 ∧ IsT ua b T := fun b e => by
          rcases e with e | e
          · subst e; exact ⟨101, by decide, HPS.out.rf.isT⟩
          · subst e; exact ⟨109, by decide, HPS.out.bx.ty⟩
        have hE4 := (i4.keep (PE.k3 (K3.of HBA.out))).keep (PE.k3 (K3.kx HP4.out.kx hX3))
        have hO4 := i3.kx hKw (fun i e => by have := i3.inb e; show ¬ (i = qL3 ∨ i = h); omega)
        have hZ4 := HZ.out.kx hKw (by show ¬ (z = qL3 ∨ z = h); omega)
        have cz := hKw.cell i1 (by show ¬ (z = qL3 ∨ z = h); omega)
        have zz := hZ4.fr 2
        have hqy : qL3 + 1 ≤ y4.heap.size := by have := HP4.out.rf.bit; omega
        have w0_ : y4.cell? ⟨h, 0, none⟩ = some (.int .i64 b0) := HP4.out.bx.cell 0 (by omega)
        have w1_ : y4.cell? ⟨h, 1, none⟩ = some (.int .i64 b1) := HP4.out.bx.cell 1 (by omega)
        have w2_ : y4.cell? ⟨h, 2, none⟩ = some (.int .i64 s.k) := HP4.out.bx.cell 2 (by omega)
        have w3_ : y4.cell? ⟨h, 3, none⟩ = some (.int .i64 s.id) := HP4.out.bx.cell 3 (by omega)
        have w4_ : y4.cell? ⟨h, 4, none⟩ = some (.int .i64 s.enc) := HP4.out.bx.cell 4 (by omega)
        have w5_ : y4.cell? ⟨h, 5, none⟩ = some (.int .i64 s.sig) := HP4.out.bx.cell 5 (by omega)
        have w6_ : y4.cell? ⟨h, 6, none⟩ = some (.int .i64 s.hash) := HP4.out.bx.cell 6 (by omega)
        have w7_ : y4.cell? ⟨h, 7, none⟩ = some (.slice B s.un.length d) := HP4.out.bx.cell 7 (by omega)
        have w8_ : y4.cell? ⟨h, 8, none⟩ = some (.int .i64 b3) := HP4.out.bx.cell 8 (by omega)
        have w9_ : y4.cell? ⟨h, 9, none⟩ = some (.int .i64 b4) := HP4.out.bx.cell 9 (by omega)
        obtain ⟨ob, hob⟩ : ∃ o : Obj, Obj.cells #[.int .i64 b0, .int .i64 b1, .int .i64 s.k, .int .i64 s.id, .int .i64 s.enc, .int .i64 s.sig, .int .i64 s.hash, .slice B s.un.length d, .int .i64 b3, .int .i64 b4] 109 = o := ⟨_, rfl⟩
        have hsy : y4.heap.size = u4.heap.size := by rw [← HY4.out]; simp [World.setCell]
        have hly : Lies (y4.alloc ob) (some ⟨u4.heap.size, 0, none⟩) (pl ⟨b0, b1, s, b3, b4⟩ B d) := by rw [← hob, ← hsy]; exact lies_cells y4 _ 109
        have hOa := hO4.alloc ob
        have hb2 : qL3 + 1 ≤ (y4.alloc ob).heap.size := by simp; omega
        have hBal : Below y4.heap.size y4 (y4.alloc ob) := nxa (Below.refl _ _) _
        have cza := (KX.of (X := fun _ => False) hBal).cell cz (fun e => e)
        have zza := (KX.of (X := fun _ => False) hBal).frz zz (fun e => e) (World.block_lt_of_cell? _ _ cz)
        have HCZ := Lib.hid cza; have HZZ := Lib.hid zza; have HOA := Lib.hid hOa; have HLY := Lib.hid hly; have HB2 := Lib.hid hb2; have HOO := Lib.hid hob
        have HE4 := Lib.hid hE4; have HO4 := Lib.hid hO4; have HZ4 := Lib.hid hZ4; have HKW := Lib.hid hKw
        rw [← HY4.out] at cz zz w0_ w1_ w2_ w3_ w4_ w5_ w6_ w7_ w8_ w9_
        clear hsy i1 i2 i3 i4 hX3 hE4 hO4 hZ4 hly hOa hb2 hBal cza zza hob hKw
        go_wp2_with (at_builtin; rw [HY4.out, HOO.out]; refine wpList_app (o := ⟨some 44, _, _, _, _, _⟩) E64 rfl rfl rfl HOA.out rfl HLY.out rfl (pl_one ⟨b0, b1, s, b3, b4⟩ B d) (by have := HB.out; have := HXL3.out; unfold maxLen; omega) (by have := HB.out; have := HXL3.out; omega) HB2.out ?_; intro A5 c5 w6 hO6 hG6 hB6; have c6 := (hB6.cell (p := ⟨z, 2, none⟩) (show z < qL3 + 1 by omega)).trans HCZ.out; have z6 := (hB6.frozen (p := ⟨z, 2, none⟩) (show z < qL3 + 1 by omega)).trans HZZ.out)
        obtain ⟨j1, j2, j3⟩ := IE.put (s := (⟨b0, b1, s, b3, b4⟩ : PR)) (v := pl ⟨b0, b1, s, b3, b4⟩ B d) hzqL3 HE4.out ⟨B, d, rfl, HU.out⟩ (fun _ _ => PE.k3) HO4.out (by decide) hO6 hG6 hB6 c6 z6 HZ4.out (by decide)
        have hrf := HP4.out.rf.kx j3 (fun i e _ => by rcases e with e | e; exact .inl (by omega); exact .inr (by omega)) (by show ¬ (qL3 = z ∨ qL3 + 1 ≤ qL3); omega)
        have hrm := remO_step (fun _ _ _ e => rProp_less e) HOUT.out
        go_roundw
        case rel =>
          refine ⟨acc ++ [⟨b0, b1, s, b3, b4⟩], oo4, Lib.hid (HL.out.step HLV.out (fun _ _ _ e => rProp_less e) HOUT.out), hrf, Lib.hid j1, Lib.hid j2, Lib.hid ?_, Lib.hid (by have := HB.out; rw [List.length_append, List.length_singleton]; omega)⟩
          exact (HK.out.next HKW.out (fun i e => by rcases e with e | e; exact .inl (.inr e); exact .inr (by have := HK.out.size; omega))).next j3 (fun i e => by rcases e with e | e; exact .inl (.inl e); exact .inr (by omega))
        case measure => rw [liveAt_of hrf, HLA.out]; exact hrm
end Go.Proofs.Ytjebmmmjjiomfaa
