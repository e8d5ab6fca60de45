/- The walk of codec.TakeWelcome. -/
import Derived.Test.YtjebmmmjjiomfaaCRTree
import Derived.Test.YtjebmmmjjiomfaaCWelW
import Derived.Laws.IdiomCopy
namespace Go.Proofs.Ytjebmmmjjiomfaa
open Go.RowKit

/-- a box of so many cells -/
structure Bx (w : World) (z n : Nat) (f : Nat → Value) (t : TypeId) : Prop where
  cell : ∀ j, j < n → w.cell? ⟨z, j, none⟩ = some (f j)
  fr : ∀ j, w.frozen? ⟨z, j, none⟩ = false
  ty : IsT w z t
  bit : z < w.heap.size
theorem Bx.of {w : World} {z n : Nat} {f : Nat → Value} {t : TypeId} {cs : Array Value} (h : w.heap[z]? = some (.cells cs t)) (hf : ∀ j, j < n → cs[j]? = some (f j)) : Bx w z n f t :=
  ⟨fun j hj => (cell_of h j).trans (hf j hj), fun j => frz_of h j, ⟨_, _, h⟩, (Array.getElem?_eq_some_iff.1 h).1⟩
theorem Bx.kx {X : Nat → Prop} {w w' : World} {z n : Nat} {f : Nat → Value} {t : TypeId} (h : Bx w z n f t) (k : KX X w w') (hz : ¬ X z) : Bx w' z n f t :=
  ⟨fun j hj => k.cell (h.cell j hj) hz, fun j => k.frz (h.fr j) hz h.bit, h.ty.kx k hz, by have := h.bit; have := k.size; omega⟩
theorem Bx.below {w w' : World} {z n : Nat} {f : Nat → Value} {t : TypeId} (h : Bx w z n f t) (k : Below w.heap.size w w') : Bx w' z n f t := h.kx (X := fun _ => False) (KX.of k) (fun e => e)
theorem Bx.set {w : World} {z n : Nat} {f : Nat → Value} {t : TypeId} (h : Bx w z n f t) {j : Nat} (hj : j < n) (v : Value) : Bx (w.setCell ⟨z, j, none⟩ v) z n (fun i => if i = j then v else f i) t := by
  refine ⟨fun i hi => ?_, fun i => by rw [World.frozen?_setCell]; exact h.fr i, h.ty.set _ _, by have := h.bit; simp [World.setCell]; exact this⟩
  by_cases e : i = j
  · subst e; rw [if_pos rfl]; exact World.cell?_setCell_same _ _ _ (h.cell i hi)
  · rw [if_neg e, World.cell?_setCell_other _ _ _ _ (by intro q; injection q with _ q; exact e q.symm)]; exact h.cell i hi
/-- what ints lays into a box -/
def upd (f : Nat → Value) (os : List Nat) (ns : List Int) (j : Nat) : Value := match (os.zip ns).lookup j with | some z => .int .i64 z | none => f j
theorem lookup_some : ∀ {os : List Nat} {ns : List Int} {j : Nat} {z : Int}, (os.zip ns).lookup j = some z → ∃ i : Nat, os[i]? = some j ∧ ns[i]? = some z
  | [], _, _, _, h => by simp at h
  | _ :: _, [], _, _, h => by simp at h
  | o :: os, n :: ns, j, z, h => by
    rw [List.zip_cons_cons, List.lookup_cons] at h
    by_cases e : j = o
    · subst e
      simp at h
      subst h
      exact ⟨0, rfl, rfl⟩
    · rw [show (j == o) = false from beq_eq_false_iff_ne.2 e] at h
      obtain ⟨i, h1, h2⟩ := lookup_some (os := os) (ns := ns) h
      exact ⟨i + 1, by simpa using h1, by simpa using h2⟩
theorem lookup_none : ∀ {os : List Nat} {ns : List Int} {j : Nat}, os.length = ns.length → (os.zip ns).lookup j = none → j ∉ os
  | [], _, _, _, _ => by simp
  | _ :: _, [], _, h, _ => by simp at h
  | o :: os, n :: ns, j, hl, h => by
    rw [List.zip_cons_cons, List.lookup_cons] at h
    by_cases e : j = o
    · subst e; simp at h
    · rw [show (j == o) = false from beq_eq_false_iff_ne.2 e] at h
      have := lookup_none (os := os) (ns := ns) (j := j) (by simpa using hl) h
      simp [e, this]
/-- cells of a block -/
def tg (z : Nat) (os : List Nat) : List Addr := os.map fun j => ⟨z, j, none⟩
theorem tg_mem {z : Nat} {os : List Nat} {q : Addr} : q ∈ tg z os ↔ ∃ j ∈ os, q = ⟨z, j, none⟩ := by
  unfold tg; rw [List.mem_map]
  constructor
  · rintro ⟨j, h1, rfl⟩; exact ⟨j, h1, rfl⟩
  · rintro ⟨j, h1, rfl⟩; exact ⟨j, h1, rfl⟩
theorem Bx.ints {w w' : World} {z n p : Nat} {f : Nat → Value} {t : TypeId} {os : List Nat} {ns : List Int} (h : Bx w z n f t) (ck : CK (tg z os) p w w') (vk : VK (tg z os) ns w') (hzp : z ≠ p) (hl : os.length = ns.length) : Bx w' z n (upd f os ns) t := by
  refine ⟨fun j hj => ?_, fun j => (ck.frz _).trans (h.fr j), ck.typ _ _ h.ty, by rw [ck.size]; exact h.bit⟩
  unfold upd
  cases e : (os.zip ns).lookup j with
  | none =>
    have hno := lookup_none hl e
    exact (ck.cell ⟨z, j, none⟩ hzp (fun hm => by obtain ⟨i, h1, h2⟩ := tg_mem.1 hm; injection h2 with _ h2; subst h2; exact hno h1)).trans (h.cell j hj)
  | some v =>
    obtain ⟨i, h1, h2⟩ := lookup_some e
    exact vk i ⟨z, j, none⟩ v (by unfold tg; rw [List.getElem?_map, h1]; rfl) h2
/-- the call of ints on a box's cells -/
theorem rintsB {p z n : Nat} {X : Nat → Prop} {l : List UInt8} {w : World} {f : Nat → Value} {t : TypeId} (os : List Nat) (k : Nat) (cs : Array Value) (hcs : cs.toList = (tg z os).map fun q => .pointer (some q)) (hk : os.length = k) (hk2 : k ≤ 1000) (h : RD X w p l) (hX : X p) (hXz : X z) (hzp : z ≠ p) (hb : Bx w z n f t)
    (hos : ∀ j ∈ os, j < n ∧ ∃ v, f j = .int .i64 v) (hnd : os.Nodup) :
    Calls Try.prog 75 #[.pointer (some ⟨p, 0, none⟩), .slice (some ⟨w.heap.size, 0, none⟩) k k] (w.alloc (.cells cs 106)) fun e w' =>
      (∃ ns r, rIs k l = some (ns, r) ∧ e = .returned (.tuple #[]) ∧ RD X w' p r ∧ Bx w' z n (upd f os ns) t ∧ KX (zq z p) w w') ∨ (rIs k l = none ∧ e = .panicked [badE] ∧ KX (zq z p) w w') := by
  have hBa : Below w.heap.size w (w.alloc (.cells cs 106)) := nxa (Below.refl _ _) _
  have hb' := hb.below hBa
  have hR : RD X (w.alloc (.cells cs 106)) p l := h.kx (Y := fun _ => False) (KX.of hBa) (fun _ e _ => e.elim) (fun e => e)
  have hbit := h.bit
  have hzw := hb.bit
  have hrow : SlX (fun b => b = p ∨ ∃ t ∈ tg z os, t.block = b) (w.alloc (.cells cs 106)) (some ⟨w.heap.size, 0, none⟩) k k ((tg z os).map fun q => .pointer (some q)) := by
    refine SlX.row cs (by unfold tg; simpa using hk) hcs hk2 ?_
    rintro (e | ⟨t, ht, e⟩)
    · omega
    · obtain ⟨j, _, rfl⟩ := tg_mem.1 ht
      have : z = w.heap.size := e
      omega
  have hnd' : (tg z os).Nodup := by
    unfold tg
    rw [List.nodup_iff_pairwise_ne, List.pairwise_map]
    rw [List.nodup_iff_pairwise_ne] at hnd
    exact hnd.imp fun h e => h (by injection e)
  have hkx : ∀ w', CK (tg z os) p (w.alloc (.cells cs 106)) w' → KX (zq z p) w w' := fun w' c => ((KX.of (X := zq z p) hBa)).next c.kx (fun i e => by
    rcases e with e | ⟨t, ht, e⟩
    · exact .inl (.inr e)
    · obtain ⟨j, _, rfl⟩ := tg_mem.1 ht
      exact .inl (.inl e.symm))
  refine (rints_ok p X l _ k k (tg z os) _ hR hX hrow (Lib.hid fun t ht => ?_) (Lib.hid hnd')).mono ?_
  · obtain ⟨j, hj, rfl⟩ := tg_mem.1 ht
    obtain ⟨h1, v, h2⟩ := hos j hj
    exact ⟨hXz, hzp, ⟨v, by rw [← h2]; exact hb'.cell j h1⟩, hb'.fr j⟩
  · rintro e w' (⟨ns, r, h1, h2, h3, h4, h5⟩ | ⟨h1, h2, h3⟩)
    · exact .inl ⟨ns, r, h1, h2, h3, hb'.ints h4 h5 hzp (by rw [(rIs_less h1).2, hk]), hkx _ h4⟩
    · exact .inr ⟨h1, h2, hkx _ h3⟩
theorem TV.kx {X : Nat → Prop} {t : List TN} {w w' : World} {v : Value} (h : TV t w v) (k : KX X w w') (hX : ∀ b, X b → ∃ T : TypeId, T ≠ 67 ∧ T ≠ 3 ∧ IsT w b T) : TV t w' v := by
  obtain ⟨base, A, c, cs, e1, e2, e3⟩ := h
  refine ⟨base, A, c, cs, e1, e2.kx k (fun g hg hx => ?_), e3.keep (NE.k3 (K3.kx k (fun b e => by obtain ⟨T, h1, h2, h3⟩ := hX b e; exact ⟨T, h2, h3⟩)))⟩
  obtain ⟨T, h1, h2, h3⟩ := hX g hx
  exact (e2.isT hg).ne h3 (fun e => h1 e.symm) rfl
theorem list2 {ns : List Int} (h : ns.length = 2) : ∃ a b, ns = [a, b] := by
  match ns, h with
  | [a, b], _ => exact ⟨a, b, rfl⟩
theorem list3 {ns : List Int} (h : ns.length = 3) : ∃ a b c, ns = [a, b, c] := by
  match ns, h with
  | [a, b, c], _ => exact ⟨a, b, c, rfl⟩
theorem list4 {ns : List Int} (h : ns.length = 4) : ∃ a b c d, ns = [a, b, c, d] := by
  match ns, h with
  | [a, b, c, d], _ => exact ⟨a, b, c, d, rfl⟩
theorem list5 {ns : List Int} (h : ns.length = 5) : ∃ a b c d e, ns = [a, b, c, d, e] := by
  match ns, h with
  | [a, b, c, d, e], _ => exact ⟨a, b, c, d, e, rfl⟩
/-- the cells of a welcome -/
def wf (x : WM) (v : Value) : Nat → Value
  | 0 => .int .i64 x.at_ | 1 => .int .i64 x.by_ | 2 => .int .i64 x.id | 3 => .int .i64 x.epoch | 4 => v
  | 5 => .int .i64 x.conf | 6 => .int .i64 x.ext | 7 => .int .i64 x.sig | 8 => .int .i64 x.tag | _ => .int .i64 x.sealed_
theorem rWel1 {l : List UInt8} (h : rIs 4 l = none) : rWelcome l = none := by unfold rWelcome; rw [h]; rfl
theorem rWel2 {l r : List UInt8} {ns : List Int} (h : rIs 4 l = some (ns, r)) (k : rTree r = none) : rWelcome l = none := by unfold rWelcome; rw [h, Option.bind_some]; dsimp only; rw [k]; rfl
theorem rWel3 {l r r2 : List UInt8} {ns : List Int} {t : List TN} (h : rIs 4 l = some (ns, r)) (k : rTree r = some (t, r2)) (j : rIs 5 r2 = none) : rWelcome l = none := by unfold rWelcome; rw [h, Option.bind_some]; dsimp only; rw [k, Option.bind_some]; dsimp only; rw [j]; rfl
theorem rWel4 {l r r2 r3 : List UInt8} {ns ms : List Int} {t : List TN} (h : rIs 4 l = some (ns, r)) (k : rTree r = some (t, r2)) (j : rIs 5 r2 = some (ms, r3)) : rWelcome l = some (wmOf ns t ms, r3) := by unfold rWelcome; rw [h, Option.bind_some]; dsimp only; rw [k, Option.bind_some]; dsimp only; rw [j]; rfl
/-- what TakeWelcome's box holds -/
def JW (z : Nat) (x : WM) (w : World) : Prop := ∃ v, Bx w z 10 (wf x v) 58 ∧ TV x.tree w v
def wf0 : Nat → Value := wf ⟨0, 0, 0, 0, [], 0, 0, 0, 0, 0⟩ (.slice none 0 0)
set_option maxRecDepth 100000 in
set_option maxHeartbeats 4000000 in
theorem takew1_ok (z p : Nat) (l : List UInt8) (w : World) (B : Nat) (hR : RD (zo z B) w p l) (hp : B ≤ p) (hzB : z < B) (hb : Bx w z 10 wf0 58) (hlen : Hid (l.length ≤ 1073741824)) :
    Calls Try.prog 74 #[.pointer (some ⟨p, 0, none⟩), .pointer (some ⟨z, 0, none⟩)] w (FEnd rWelcome (JW z) z p l w) := by
  have HC := Lib.hid (rintsB [0, 1, 2, 3] 4 #[.pointer (some ⟨z, 0, none⟩), .pointer (some ⟨z, 1, none⟩), .pointer (some ⟨z, 2, none⟩), .pointer (some ⟨z, 3, none⟩)] rfl rfl (by omega) hR (.inr hp) (.inl rfl) (by omega) hb
    (fun j hj => by simp at hj; rcases hj with rfl | rfl | rfl | rfl <;> exact ⟨by omega, 0, rfl⟩) (by decide))
  have hzp : z ≠ p := by omega
  clear hR hb
  go_enter Try.func74, Try.ntmps74
  go_wp2_with fail
  refine HC.out.mono ?_
  rintro e w1 (⟨ns, r, f1, rfl, f3, f4, f5⟩ | ⟨f1, rfl, f3⟩)
  · have hrl := (rIs_less f1).1
    obtain ⟨n0, n1, n2, n3, rfl⟩ := list4 (rIs_less f1).2
    have HT := Lib.hid (rtree_ok p (zo z B) r w1 f3 (.inr hp) (Lib.hid (by have := hlen.out; omega)))
    have HB1 := Lib.hid f4; have HK1 := Lib.hid f5; have H1 := Lib.hid f1
    clear f1 f3 f4 f5
    go_wp2_with fail
    refine HT.out.mono ?_
    rintro e w2 (⟨t, r2, v, h1, rfl, h3, h4, h5⟩ | ⟨h1, rfl, h3⟩)
    · have hb2 := HB1.out.kx h5 (by omega)
      have c4 := hb2.cell 4 (by omega)
      have z4 := hb2.fr 4
      have hT2 := h3.set (q := ⟨z, 4, none⟩) hb2.ty (by decide) (by decide) v
      have hK2 : KX (zq z p) w1 (w2.setCell ⟨z, 4, none⟩ v) := (h5.mono (fun i e => .inr e)).set ⟨z, 4, none⟩ _ (.inl (.inl rfl))
      have hR3 : RD (zo z B) (w2.setCell ⟨z, 4, none⟩ v) p r2 := h4.kx ((KX.refl (· = z) w2).set ⟨z, 4, none⟩ _ (.inl rfl)) (fun i e _ => .inl e) (by omega)
      have hb3 := hb2.set (j := 4) (by omega) v
      obtain ⟨w3, hw3⟩ : ∃ w3, w2.setCell ⟨z, 4, none⟩ v = w3 := ⟨_, rfl⟩
      have HW3 := Lib.hid hw3
      rw [hw3] at hT2 hK2 hR3 hb3
      have HC2 := Lib.hid (rintsB [5, 6, 7, 8, 9] 5 #[.pointer (some ⟨z, 5, none⟩), .pointer (some ⟨z, 6, none⟩), .pointer (some ⟨z, 7, none⟩), .pointer (some ⟨z, 8, none⟩), .pointer (some ⟨z, 9, none⟩)] rfl rfl (by omega) hR3 (.inr hp) (.inl rfl) (by omega) hb3
        (fun j hj => by simp at hj; rcases hj with rfl | rfl | rfl | rfl | rfl <;> exact ⟨by omega, 0, rfl⟩) (by decide))
      rw [show w3.heap.size = w2.heap.size by rw [← hw3]; simp [World.setCell]] at HC2
      have HTY : Hid (∀ b, zq z p b → ∃ T : TypeId, T ≠ 67 ∧ T ≠ 3 ∧ IsT w3 b T) := Lib.hid (fun b e => by
        rcases e with e | e
        · subst e; exact ⟨58, by decide, by decide, hb3.ty⟩
        · subst e; obtain ⟨_, _, _, _, _, h⟩ := hR3; exact ⟨132, by decide, by decide, h⟩)
      have HT2 := Lib.hid hT2; have HK2 := Lib.hid (HK1.out.trans hK2); have H2 := Lib.hid h1
      obtain ⟨AT, cT, rfl⟩ := h3.form
      clear h1 h3 h4 h5 hb2 hT2 hK2 hR3 hb3 hw3
      go_wp2_with fail
      rw [HW3.out]
      refine HC2.out.mono ?_
      rintro e w4 (⟨ms, r3, g1, rfl, g3, g4, g5⟩ | ⟨g1, rfl, g3⟩)
      · go_wp2_with fail
        go_end0
        obtain ⟨m0, m1, m2, m3, m4, rfl⟩ := list5 (rIs_less g1).2
        refine .inl ⟨wmOf [n0, n1, n2, n3] t [m0, m1, m2, m3, m4], r3, zo z B, rWel4 H1.out H2.out g1, rfl, g3, ⟨.slice AT t.length cT, ?_, HT2.out.kx g5 HTY.out⟩, HK2.out.trans g5⟩
        refine ⟨fun j hj => (g4.cell j hj).trans ?_, g4.fr, g4.ty, g4.bit⟩
        match j, hj with
        | 0, _ => rfl | 1, _ => rfl | 2, _ => rfl | 3, _ => rfl | 4, _ => rfl | 5, _ => rfl | 6, _ => rfl | 7, _ => rfl | 8, _ => rfl | 9, _ => rfl
        | j + 10, h => exact absurd h (by omega)
      · simp [bodyPost]
        exact .inr ⟨rWel3 H1.out H2.out g1, rfl, HK2.out.trans g3⟩
    · simp [bodyPost]
      exact .inr ⟨rWel2 H1.out h1, rfl, HK1.out.trans (h3.mono (fun i e => .inr e))⟩
  · simp [bodyPost]
    exact .inr ⟨rWel1 f1, rfl, f3⟩
theorem KX.sets {X : Nat → Prop} {a : World} (z : Nat) (hz : X z ∨ a.heap.size ≤ z) : ∀ (vs : List Value) (o : Nat) {b : World}, KX X a b → KX X a (b.setCells z o vs)
  | [], _, _, h => h
  | v :: r, o, b, h => by
    rw [World.setCells]
    exact KX.sets z hz r (o + 1) (h.set ⟨z, o, none⟩ v hz)
theorem IsT.sets {b : Nat} {t : TypeId} (z : Nat) : ∀ (vs : List Value) (o : Nat) {w : World}, IsT w b t → IsT (w.setCells z o vs) b t
  | [], _, _, h => h
  | v :: r, o, w, h => by
    rw [World.setCells]
    exact IsT.sets z r (o + 1) (h.set _ _)
theorem KX.lays (w : World) (z : Nat) (vs : List Value) : KX (· = z) w (w.setCells z 0 vs) := KX.sets (X := (· = z)) z (.inl rfl) vs 0 (KX.refl (· = z) w)
/-- all the cells of a box laid -/
theorem Bx.sets {w : World} {z n : Nat} {f g : Nat → Value} {t : TypeId} (h : Bx w z n f t) (vs : List Value) (hn : vs.length = n) (hg : ∀ j, j < n → vs[j]? = some (g j)) : Bx (w.setCells z 0 vs) z n g t := by
  refine ⟨fun j hj => ?_, fun j => by rw [World.frozen?_setCells]; exact h.fr j, h.ty.sets z vs 0, by have := (KX.lays w z vs).size; have := h.bit; omega⟩
  have e := World.cell?_setCells_in z vs 0 w (fun i hi => by rw [Nat.zero_add, h.cell i (by omega)]; rfl) j (by omega)
  rw [Nat.zero_add] at e
  rw [e]
  have := hg j hj
  rw [List.getElem?_eq_getElem (by omega)] at this
  exact this
def wm0 : WM := ⟨0, 0, 0, 0, [], 0, 0, 0, 0, 0⟩
/-- how TakeWelcome ends -/
def WmEnd (o : Option WM) (w : World) (e : Ending) (w' : World) : Prop :=
  ((∃ x A c, o = some x ∧ e = .returned (.tuple #[wv x A x.tree.length c, .int .i64 0]) ∧ Ts w' A x.tree.length c x.tree) ∨ (o = none ∧ e = .returned (.tuple #[wv wm0 none 0 0, .int .i64 11]))) ∧ Below w.heap.size w w'
theorem cf74 (args : Array Value) (w : World) : (callFunc 74 args).run Try.prog w = .ok (.enter 74 args) w := by kernel_rfl
abbrev zw : Array Value := #[.int .i64 0, .int .i64 0, .int .i64 0, .int .i64 0, .slice none 0 0, .int .i64 0, .int .i64 0, .int .i64 0, .int .i64 0, .int .i64 0]
theorem zw_f : ∀ j, j < 10 → zw[j]? = some (wf0 j) := by
  intro j hj
  match j, hj with
  | 0, _ => rfl | 1, _ => rfl | 2, _ => rfl | 3, _ => rfl | 4, _ => rfl | 5, _ => rfl | 6, _ => rfl | 7, _ => rfl | 8, _ => rfl | 9, _ => rfl
  | j + 10, h => exact absurd h (by omega)
theorem wc_f (x : WM) (A : Option Addr) (n c : Nat) : ∀ j, j < 10 → (wc x A n c).toList[j]? = some (wf x (.slice A n c) j) := by
  intro j hj
  match j, hj with
  | 0, _ => rfl | 1, _ => rfl | 2, _ => rfl | 3, _ => rfl | 4, _ => rfl | 5, _ => rfl | 6, _ => rfl | 7, _ => rfl | 8, _ => rfl | 9, _ => rfl
  | j + 10, h => exact absurd h (by omega)
set_option maxRecDepth 100000 in
set_option maxHeartbeats 4000000 in
/-- codec.TakeWelcome -/
theorem takewelcome_ok (A : Option Addr) (n c : Nat) (l : List UInt8) (w : World) (h : Sl w A n c (bv l)) (hlen : Hid (l.length ≤ 1073741824)) :
    Calls Try.prog 42 #[.slice A n c] w (WmEnd (full rWelcome l) w) := by
  have hmf := hmfT
  obtain ⟨g, hg⟩ : ∃ g, w.heap.size = g := ⟨_, rfl⟩
  obtain ⟨wz, hwz⟩ : ∃ wz, (w.alloc (.cells zw 58)).alloc (.cells zw 58) = wz := ⟨_, rfl⟩
  have hBz : Below w.heap.size w wz := by rw [← hwz]; exact nxa (nxa (Below.refl _ _) _) _
  have hzz : wz.heap.size = g + 1 + 1 := by rw [← hwz]; simp [hg]
  have k0 : wz.heap[g]? = some (.cells zw 58) := by rw [← hwz, Below.heap_alloc _ _ _ (by simp; omega), ← hg]; exact heap_alloc_new _ _
  have k1 : wz.heap[g + 1]? = some (.cells zw 58) := by
    have := heap_alloc_new (w.alloc (.cells zw 58)) (.cells zw 58)
    rw [← hwz]
    rwa [show (w.alloc (.cells zw 58)).heap.size = g + 1 by simp [hg]] at this
  have hsl : SlX (· = g + 1) wz A n c (bv l) := by
    refine ⟨h.below hBz, ?_⟩
    rcases h.lies with e | ⟨ad, rfl, _⟩
    · exact .inl e
    · by_cases hx : bv l = []
      · exact .inl hx
      · have := h.lies.blk rfl hx
        exact .inr ⟨ad, rfl, by omega⟩
  have hb0 : Bx wz (g + 1) 10 wf0 58 := Bx.of k1 zw_f
  have HG : Hid (Bx wz g 10 wf0 58) := Lib.hid (Bx.of k0 zw_f)
  have HR := Lib.hid (read_ok rWelcome (JW (g + 1)) (g + 1) 74 #[.pointer (some ⟨g + 1, 0, none⟩)] l A n c wz hsl (by omega) cf74
    (fun a w b v hb hbz hj => by
      obtain ⟨u, h1, h2⟩ := hj
      exact ⟨u, h1.kx ((KX.refl (· = b) w).set ⟨b, 0, none⟩ v (.inl rfl)) (fun e => hbz e.symm), h2.set (q := ⟨b, 0, none⟩) hb (by decide) (by decide) v⟩)
    (Lib.hid (fun wf p hK hp hRD => takew1_ok (g + 1) p l wf wz.heap.size hRD hp (by omega) (hb0.kx hK (fun e => e)) hlen)))
  have HB := Lib.hid hBz; have HW := Lib.hid hwz; have HGG := Lib.hid hg
  clear hBz hwz k0 k1 hzz hsl h hb0
  go_enter Try.func42, Try.ntmps42
  go_wp2_with fail
  rw [HW.out]
  refine HR.out.mono ?_
  rintro e w2 ⟨⟨x, f1, rfl, ⟨v, hb, hT⟩⟩ | ⟨f1, rfl⟩, hK⟩
  · have hg2 := HG.out.kx hK (by omega)
    obtain ⟨B, d, rfl⟩ := hT.form
    have HFIN : Hid (Below w.heap.size w (w2.setCells g 0 (wc x B x.tree.length d).toList)) := Lib.hid (((KX.of (X := fun _ => False) HB.out).next (hK.mono (fun i e => e)) (fun i e => .inr (by have := HGG.out; omega)) |>.below (Nat.le_refl _) (fun _ e => e.elim)).trans (((KX.lays w2 g _).below (B := w.heap.size) (by have := hg2.bit; have := HGG.out; omega) (fun b e => by have := HGG.out; omega))))
    have hl := hg2.sets (wc x B x.tree.length d).toList rfl (wc_f x B x.tree.length d)
    have hT9 := TV.kx hT (KX.lays w2 g (wc x B x.tree.length d).toList) (fun b e => ⟨58, by decide, by decide, by subst e; exact hg2.ty⟩)
    have c0 := hb.cell 0 (by omega); have c1 := hb.cell 1 (by omega); have c2 := hb.cell 2 (by omega); have c3 := hb.cell 3 (by omega); have c4 := hb.cell 4 (by omega); have c5 := hb.cell 5 (by omega); have c6 := hb.cell 6 (by omega); have c7 := hb.cell 7 (by omega); have c8 := hb.cell 8 (by omega); have c9 := hb.cell 9 (by omega)
    have u0 := hg2.cell 0 (by omega); have u1 := hg2.cell 1 (by omega); have u2 := hg2.cell 2 (by omega); have u3 := hg2.cell 3 (by omega); have u4 := hg2.cell 4 (by omega); have u5 := hg2.cell 5 (by omega); have u6 := hg2.cell 6 (by omega); have u7 := hg2.cell 7 (by omega); have u8 := hg2.cell 8 (by omega); have u9 := hg2.cell 9 (by omega)
    have x0 := hg2.fr 0; have x1 := hg2.fr 1; have x2 := hg2.fr 2; have x3 := hg2.fr 3; have x4 := hg2.fr 4; have x5 := hg2.fr 5; have x6 := hg2.fr 6; have x7 := hg2.fr 7; have x8 := hg2.fr 8; have x9 := hg2.fr 9
    simp only [wf] at c0 c1 c2 c3 c4 c5 c6 c7 c8 c9
    have H1 := Lib.hid f1; have HL := Lib.hid hl; have HT9 := Lib.hid hT9
    clear hb hT hK hg2 f1 hl hT9
    go_wp2_with fail
    refine (show bodyPost Try.prog Try.f42 (WmEnd (full rWelcome l) w) Exit.ret _ (w2.setCells g 0 (wc x B x.tree.length d).toList) from ?_)
    have l0 := HL.out.cell 0 (by omega); have l1 := HL.out.cell 1 (by omega); have l2 := HL.out.cell 2 (by omega); have l3 := HL.out.cell 3 (by omega); have l4 := HL.out.cell 4 (by omega); have l5 := HL.out.cell 5 (by omega); have l6 := HL.out.cell 6 (by omega); have l7 := HL.out.cell 7 (by omega); have l8 := HL.out.cell 8 (by omega); have l9 := HL.out.cell 9 (by omega)
    simp only [wf] at l0 l1 l2 l3 l4 l5 l6 l7 l8 l9
    generalize w2.setCells g 0 (wc x B x.tree.length d).toList = w9 at *
    simp [bodyPost, results, Try.results42, go_sem, l0, l1, l2, l3, l4, l5, l6, l7, l8, l9]
    exact ⟨.inl ⟨x, B, d, H1.out, rfl, HT9.out.ts⟩, HFIN.out⟩
  · have hg2 := HG.out.kx hK (by omega)
    have HFIN : Hid (Below w.heap.size w (w2.setCells g 0 zw.toList)) := Lib.hid (((KX.of (X := fun _ => False) HB.out).next (hK.mono (fun i e => e)) (fun i e => .inr (by have := HGG.out; omega)) |>.below (Nat.le_refl _) (fun _ e => e.elim)).trans (((KX.lays w2 g _).below (B := w.heap.size) (by have := hg2.bit; have := HGG.out; omega) (fun b e => by have := HGG.out; omega))))
    have hl := hg2.sets (g := wf0) zw.toList rfl (fun j hj => by have := zw_f j hj; simpa using this)
    have u0 := hg2.cell 0 (by omega); have u1 := hg2.cell 1 (by omega); have u2 := hg2.cell 2 (by omega); have u3 := hg2.cell 3 (by omega); have u4 := hg2.cell 4 (by omega); have u5 := hg2.cell 5 (by omega); have u6 := hg2.cell 6 (by omega); have u7 := hg2.cell 7 (by omega); have u8 := hg2.cell 8 (by omega); have u9 := hg2.cell 9 (by omega)
    have x0 := hg2.fr 0; have x1 := hg2.fr 1; have x2 := hg2.fr 2; have x3 := hg2.fr 3; have x4 := hg2.fr 4; have x5 := hg2.fr 5; have x6 := hg2.fr 6; have x7 := hg2.fr 7; have x8 := hg2.fr 8; have x9 := hg2.fr 9
    have H1 := Lib.hid f1; have HL := Lib.hid hl
    clear hK hg2 f1 hl
    go_wp2_with fail
    refine (show bodyPost Try.prog Try.f42 (WmEnd (full rWelcome l) w) Exit.ret _ (w2.setCells g 0 zw.toList) from ?_)
    have l0 := HL.out.cell 0 (by omega); have l1 := HL.out.cell 1 (by omega); have l2 := HL.out.cell 2 (by omega); have l3 := HL.out.cell 3 (by omega); have l4 := HL.out.cell 4 (by omega); have l5 := HL.out.cell 5 (by omega); have l6 := HL.out.cell 6 (by omega); have l7 := HL.out.cell 7 (by omega); have l8 := HL.out.cell 8 (by omega); have l9 := HL.out.cell 9 (by omega)
    simp only [wf0, wf] at l0 l1 l2 l3 l4 l5 l6 l7 l8 l9
    generalize w2.setCells g 0 zw.toList = w9 at *
    simp [bodyPost, results, Try.results42, go_sem, l0, l1, l2, l3, l4, l5, l6, l7, l8, l9]
    exact ⟨.inr ⟨H1.out, rfl⟩, HFIN.out⟩
end Go.Proofs.Ytjebmmmjjiomfaa
