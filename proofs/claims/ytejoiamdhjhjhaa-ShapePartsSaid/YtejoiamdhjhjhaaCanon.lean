/- The walk of shape.Canon. -/
import Derived.Test.YtejoiamdhjhjhaaActors
namespace Go.Proofs.Ytejoiamdhjhjhaa
open Go.RowKit

def setF (t : St) (i : Nat) (v : Int) : St := if i = 1 then ⟨t.d, v, t.of⟩ else ⟨t.d, t.who, v⟩
def tJ (f : Int → Int) (s : St) (j : Nat) : St := ((nm s.d).take j).foldl (fun t i => setF t i (f (fld s i))) ⟨s.d, 0, 0⟩
/-- a step by its places -/
def tF (f : Int → Int) (s : St) : St := if s.d = 7 then ⟨s.d, 0, s.of⟩ else tJ f s 2
/-- a number's place among some -/
def idx : List Int → Int → Nat
  | [], _ => 0
  | y :: r, x => if y = x then 0 else idx r x + 1
theorem idx_get : ∀ (a : List Int) (k : Nat) (x : Int), a.Nodup → a[k]? = some x → idx a x = k
  | [], k, x, _, h => by simp at h
  | y :: r, 0, x, _, h => by simp at h; simp [idx, h]
  | y :: r, k + 1, x, hn, h => by
    have hr : r[k]? = some x := by simpa using h
    have hn2 := List.nodup_cons.1 hn
    have hne : y ≠ x := fun e => hn2.1 (e ▸ List.mem_of_getElem? hr)
    simp [idx, hne, idx_get r k x hn2.2 hr]
theorem idx_lt : ∀ (a : List Int) (x : Int), x ∈ a → idx a x < a.length ∧ a[idx a x]? = some x
  | [], x, h => by cases h
  | y :: r, x, h => by
    unfold idx
    by_cases e : y = x
    · rw [if_pos e]; simp [e]
    · rw [if_neg e]
      have hx : x ∈ r := by
        rcases List.mem_cons.1 h with h | h
        · exact absurd h.symm e
        · exact h
      have := idx_lt r x hx
      exact ⟨by simp; exact this.1, by simpa using this.2⟩
def posF (a : List Int) (x : Int) : Int := if x ∈ a then (idx a x : Int) else 0
/-- a script's shape -/
def canL (l : List St) : List St := l.map (tF (posF (actL l)))
theorem tJ_d (f : Int → Int) (s : St) (j : Nat) : (tJ f s j).d = s.d := by
  unfold tJ
  have : ∀ (xs : List Nat) (t : St), t.d = s.d → (xs.foldl (fun t i => setF t i (f (fld s i))) t).d = s.d := by
    intro xs
    induction xs with
    | nil => intro t h; exact h
    | cons x r ih =>
      intro t h
      refine ih _ ?_
      show (setF t x _).d = s.d
      unfold setF; split <;> exact h
  exact this _ _ rfl
theorem tJ_step (f : Int → Int) (s : St) (j i : Nat) (h : (nm s.d)[j]? = some i) : tJ f s (j + 1) = setF (tJ f s j) i (f (fld s i)) := by
  unfold tJ; rw [List.take_add_one, h, Option.toList_some, List.foldl_append]; rfl
theorem tJ_all (f : Int → Int) (s : St) (j : Nat) (h : (nm s.d).length ≤ j) : tJ f s j = tJ f s 2 := by
  unfold tJ
  rw [List.take_of_length_le h, List.take_of_length_le (nm_len s.d)]
theorem tF_seven (f : Int → Int) (s : St) (h : s.d = 7) : tJ f s 0 = ⟨s.d, 0, 0⟩ ∧ nm s.d = [] ∧ tF f s = ⟨s.d, 0, s.of⟩ := by
  refine ⟨rfl, by rw [h]; rfl, if_pos h⟩
theorem act_nodup (l : List St) : (actL l).Nodup := by
  have h1 : ∀ (o : List Int) (x : Int), o.Nodup → (add1 o x).Nodup := by
    intro o x h
    unfold add1
    split
    · exact h
    · rename_i hx
      rw [List.nodup_append]
      refine ⟨h, by simp, ?_⟩
      intro a ha b hb
      simp at hb; subst hb
      intro e; subst e; exact hx ha
  have h2 : ∀ (xs o : List Int), o.Nodup → (xs.foldl add1 o).Nodup := by
    intro xs
    induction xs with
    | nil => intro o h; exact h
    | cons x r ih => intro o h; exact ih _ (h1 o x h)
  have h3 : ∀ (l : List St) (o : List Int), o.Nodup → (l.foldl addS o).Nodup := by
    intro l
    induction l with
    | nil => intro o h; exact h
    | cons s r ih => intro o h; exact ih _ (h2 _ o h)
  exact h3 l [] List.nodup_nil
theorem act_wf {l : List St} (h : ∀ s ∈ l, StWf s) : ∀ x ∈ actL l, Wf x := by
  have h2 : ∀ (xs o : List Int), (∀ x ∈ xs, Wf x) → (∀ x ∈ o, Wf x) → ∀ x ∈ xs.foldl add1 o, Wf x := by
    intro xs
    induction xs with
    | nil => intro o _ h; exact h
    | cons y r ih =>
      intro o h1 h2
      refine ih _ (fun x hx => h1 x (List.mem_cons_of_mem _ hx)) ?_
      intro x hx
      unfold add1 at hx
      split at hx
      · exact h2 x hx
      · rcases List.mem_append.1 hx with hx | hx
        · exact h2 x hx
        · simp at hx; subst hx; exact h1 _ (List.mem_cons_self)
  have h3 : ∀ (l : List St) (o : List Int), (∀ s ∈ l, StWf s) → (∀ x ∈ o, Wf x) → ∀ x ∈ l.foldl addS o, Wf x := by
    intro l
    induction l with
    | nil => intro o _ h; exact h
    | cons s r ih =>
      intro o h1 h
      refine ih _ (fun x hx => h1 x (List.mem_cons_of_mem _ hx)) (h2 _ o ?_ h)
      intro x hx
      obtain ⟨i, _, rfl⟩ := List.mem_map.1 hx
      exact fld_wf (h1 s (List.mem_cons_self)) i
  exact h3 l [] h (by simp)
/-- the map behind so many places -/
def posK (a : List Int) (k : Nat) (x : Int) : Int := if x ∈ a.take k then (idx a x : Int) else 0
theorem posK_all (a : List Int) (x : Int) : posK a a.length x = posF a x := by unfold posK posF; rw [List.take_length]
theorem posK_step (a : List Int) (hn : a.Nodup) (k : Nat) (x : Int) (h : a[k]? = some x) (y : Int) : (if y = x then (k : Int) else posK a k y) = posK a (k + 1) y := by
  unfold posK
  rw [List.take_add_one, h, Option.toList_some]
  by_cases e : y = x
  · subst e
    rw [if_pos rfl, if_pos (by simp)]
    rw [idx_get a k _ hn h]
  · rw [if_neg e]
    by_cases m : y ∈ a.take k
    · rw [if_pos m, if_pos (by simp [m])]
    · rw [if_neg m, if_neg (by simp [m, e])]
theorem MI.drew {w : World} {b n : Nat} {f : Int → Int} (h : MI w b n f) : MI w.drew b n f := h
theorem MI.drewN {w : World} {b n : Nat} {f : Int → Int} (h : MI w b n f) (q : Nat) : MI (w.drewN q) b n f := h
theorem MI.congr {w : World} {b n : Nat} {f g : Int → Int} (h : MI w b n f) (e : ∀ x, f x = g x) : MI w b n g := by
  have : f = g := funext e
  rw [← this]; exact h
theorem bx' {w w' : World} {o : Obj} (h : Below (w.alloc o).heap.size (w.alloc o) w') : Below w.heap.size w w' :=
  ((Below.refl _ w).alloc (Nat.le_refl _) _).trans (h.mono (by simp))
theorem E22 : Elem Try.prog 22 31 (.agg #[.int .i64 0, .int .i64 0, .int .i64 0]) 3 24 := ⟨Try.underlying22, by kernel_rfl, rfl, by omega⟩
/-- a box that holds a step -/
structure B3 (w : World) (g : Nat) (s : St) : Prop where
  c0 : w.cell? ⟨g, 0, none⟩ = some (.int .i64 s.d)
  c1 : w.cell? ⟨g, 1, none⟩ = some (.int .i64 s.who)
  c2 : w.cell? ⟨g, 2, none⟩ = some (.int .i64 s.of)
  fz : ∀ j, w.frozen? ⟨g, j, none⟩ = false
  tg : Tg w g 31
theorem lies_sv (w : World) (t : St) (g : Nat) (hg : w.heap.size = g) : Lies (w.alloc (.cells #[.int .i64 t.d, .int .i64 t.who, .int .i64 t.of] 31)) (some ⟨g, 0, none⟩) (svs [t]) := by
  subst hg; exact lies_cells w #[.int .i64 t.d, .int .i64 t.who, .int .i64 t.of] 31
theorem B3.block {w w' : World} {g : Nat} {s : St} (h : B3 w g s) (e : w'.heap[g]? = w.heap[g]?) : B3 w' g s :=
  ⟨(World.cell?_of_block e).trans h.c0, (World.cell?_of_block e).trans h.c1, (World.cell?_of_block e).trans h.c2, fun j => (World.frozen?_of_block e).trans (h.fz j), h.tg.block e⟩
theorem B3.lt {w : World} {g : Nat} {s : St} (h : B3 w g s) : g < w.heap.size := h.tg.lt
theorem B3.below {w w' : World} {g B : Nat} {s : St} (h : B3 w g s) (hb : Below B w w') (hg : g < B) : B3 w' g s := h.block (hb.block g hg)
theorem B3.alloc {w : World} {g : Nat} {s : St} (h : B3 w g s) (o : Obj) : B3 (w.alloc o) g s := h.block (Below.heap_alloc w o g h.lt)
theorem B3.far {w : World} {g : Nat} {s : St} (h : B3 w g s) {a : Addr} (ha : g ≠ a.block) (u : Value) : B3 (w.setCell a u) g s := h.block (Below.heap_setCell w a u g ha)
theorem B3.at_ {w : World} {g i : Nat} {s : St} (h : B3 w g s) (hi : i = 1 ∨ i = 2) : w.cell? ⟨g, i, none⟩ = some (.int .i64 (fld s i)) := by
  rcases hi with rfl | rfl
  · exact h.c1
  · exact h.c2
theorem B3.new (w : World) (s : St) : B3 (w.alloc (.cells #[.int .i64 s.d, .int .i64 s.who, .int .i64 s.of] 31)) w.heap.size s := ⟨by simp, by simp, by simp, by simp, Tg.new _ _ _⟩
theorem Tg.set {w : World} {g : Nat} {t : TypeId} (h : Tg w g t) (a : Addr) (u : Value) : Tg (w.setCell a u) g t := by
  obtain ⟨cs, fr, h⟩ := h
  unfold Tg World.setCell
  simp only [Array.getElem?_modify]
  by_cases e : a.block = g
  · rw [if_pos e, h]; exact ⟨_, _, rfl⟩
  · rw [if_neg e]; exact ⟨_, _, h⟩
theorem Tg.ne31 {w : World} {g k : Nat} (h : Tg w g 49) (h2 : Tg w k 31) : g ≠ k := by
  intro e; subst e
  obtain ⟨c1, f1, h⟩ := h
  obtain ⟨c2, f2, h2⟩ := h2
  rw [h] at h2
  injection h2 with h2; injection h2 with _ h2 _
  exact absurd h2 (by decide)
theorem B3.put {w : World} {g i : Nat} {s : St} (h : B3 w g s) (hi : i = 1 ∨ i = 2) (v : Int) : B3 (w.setCell ⟨g, i, none⟩ (.int .i64 v)) g (setF s i v) := by
  rcases hi with rfl | rfl
  · exact ⟨(World.cell?_setCell_other _ _ _ _ (by simp)).trans h.c0, World.cell?_setCell_same _ _ _ h.c1, (World.cell?_setCell_other _ _ _ _ (by simp)).trans h.c2, fun j => by rw [World.frozen?_setCell]; exact h.fz j, h.tg.set _ _⟩
  · exact ⟨(World.cell?_setCell_other _ _ _ _ (by simp)).trans h.c0, (World.cell?_setCell_other _ _ _ _ (by simp)).trans h.c1, World.cell?_setCell_same _ _ _ h.c2, fun j => by rw [World.frozen?_setCell]; exact h.fz j, h.tg.set _ _⟩
theorem Sl.far {w : World} {A : Option Addr} {n c : Nat} {xs : List Value} (h : Sl w A n c xs) {a : Addr} (ha : ∀ ad : Addr, A = some ad → ad.block ≠ a.block) (u : Value) : Sl (w.setCell a u) A n c xs :=
  h.block fun ad e => Below.heap_setCell w a u _ (ha ad e)
theorem wpList_load3 {w : World} {ops : Array Oper} {rest : List Oper} {dst : Option Nat} {ty : TypeId} {pos : String} {af : Array Edge} {a : Act} {Q : Exit → Act → World → Prop} {x : Operand} {g : Nat} {t : St}
    (hx : a.eval x = .pointer (some ⟨g, 0, none⟩)) (h0 : w.cell? ⟨g, 0, none⟩ = some (.int .i64 t.d)) (h1 : w.cell? ⟨g, 1, none⟩ = some (.int .i64 t.who)) (h2 : w.cell? ⟨g, 2, none⟩ = some (.int .i64 t.of))
    (hK : wpList Try.prog ops Q rest (a.put dst (.agg #[.int .i64 t.d, .int .i64 t.who, .int .i64 t.of])) w) :
    wpList Try.prog ops Q (⟨dst, Op.load 31 x, ty, pos, af, none⟩ :: rest) a w := by
  refine wpList_plain rfl fun K' hK' => ?_
  have hK2 := hK' _ _ hK
  unfold Oper.wp
  simp only [execOp, hx]
  go_simp
  exact hK2
set_option maxRecDepth 100000 in
set_option maxHeartbeats 4000000 in
theorem can_ok (A : Option Addr) (n c : Nat) (l : List St) (w : World) (h : Ss w A n c l) (hn : n ≤ 1000) (hwf : Hid (∀ s ∈ l, StWf s)) :
    Calls Try.prog 12 #[.slice A n c] w fun e w' => ∃ A' c', e = .returned (.slice A' n c') ∧ Ow w' w.heap.size 31 3 A' n c' (svs (canL l)) ∧ Below w.heap.size w w' := by
  have hmm := @run_makeMap Try.prog
  have HL := Lib.hid h.len
  have HA := Lib.hid (fun W (hW : Ss W A n c l) => act_ok A n c l W hW hn hwf)
  have hal := act_len l
  rw [HL.out] at hal
  have HN := Lib.hid (act_nodup l)
  have HW := Lib.hid (act_wf hwf.out)
  have HC : Hid (canL l = l.map (tF (posF (actL l)))) := rfl
  obtain ⟨a, ha⟩ : ∃ a, actL l = a := ⟨_, rfl⟩
  rw [ha] at HA hal HN HW HC
  obtain ⟨N, hN⟩ : ∃ N, a.length = N := ⟨_, rfl⟩
  rw [hN] at HA hal
  have HNN := Lib.hid hN
  clear ha hN
  go_enter Try.func12, Try.ntmps12
  go_wp2_with (go_at_call 10; fail)
  refine (HA.out _ (h.alloc _)).mono ?_
  rintro e w1 ⟨A1, c1, rfl, hO1, hB1⟩
  have hM1 := (MI.new w).below hB1 (by simp)
  have hS1 := hO1.sl
  have hbb : ∀ ad : Addr, A1 = some ad → ad.block ≠ w.heap.size := by
    intro ad e
    have := hO1.base_ ad.block (by subst e; rfl)
    simp at this; omega
  have hB1' : Below w.heap.size w w1 := bx' hB1
  clear hO1 hB1 HA
  go_wp2_with fail
  go_loopw [17] (fun i wr => ∃ k : Nat, k ≤ N ∧ i = .int .i64 (k : Int) ∧ MI wr w.heap.size k (posK a k) ∧ Sl wr A1 N c1 (iv a) ∧ Below w.heap.size w wr) (fun i _ => N - (intOf i).toNat)
  case atStart => exact ⟨0, Nat.zero_le _, rfl, hM1.congr (fun x => by simp [posK]), hS1, hB1'⟩
  case round =>
    clear hM1 hS1 hB1'
    obtain ⟨k, hk, rfl, hM, hS, hB⟩ := hrel
    by_cases hlt : k < N
    · obtain ⟨ad, hl, rfl, hc⟩ := hS.int hlt
      obtain ⟨x, hx⟩ : ∃ x, a[k]'hl = x := ⟨_, rfl⟩
      have hx2 : a[k]? = some x := by rw [List.getElem?_eq_getElem hl, hx]
      have hxw := HW.out x (List.mem_of_getElem? hx2)
      have HS := Lib.hid (posK_step a HN.out k x hx2)
      rw [hx] at hc
      clear hx hx2
      go_wp2_with (at_mapUpdate; refine wpList_putI rfl _ _ _ rfl rfl hM (by unfold maxLen; omega) rfl rfl hxw (show Wf (k : Int) from ⟨by omega, by omega⟩) ?_; intro w5 hM5 hG5)
      go_roundw
      case rel => exact ⟨k + 1, by omega, by go_num, hM5.congr HS.out, hS.grown hG5 hbb, hB.grown hG5 (Nat.le_of_lt hM.lt) (fun r e => by injection e with e; omega)⟩
      case measure => simp [intOf]; omega
    · obtain rfl : k = N := by omega
      have hMF : MI wr w.heap.size k (posF a) := hM.congr (fun x => by rw [← HNN.out]; exact posK_all a x)
      clear hM hS hbb
      go_wp2_with fail
      go_loopw [6, 28] (fun v i w2 => ∃ (q : Nat) (A' : Option Addr) (c' : Nat), q ≤ n ∧ i = .int .i64 (q : Int) ∧ v = .slice A' q c' ∧ Ow w2 (w.heap.size + 1) 31 3 A' q c' (svs ((l.take q).map (tF (posF a)))) ∧ MI w2 w.heap.size k (posF a) ∧ Below w.heap.size w w2 ∧ w.heap.size + 1 ≤ w2.heap.size) (fun _ i _ => n - (intOf i).toNat)
      case atStart => exact ⟨0, none, 0, Nat.zero_le _, rfl, rfl, Ow.nil _ _ _ _, hMF, hB, hMF.lt⟩
      case round =>
        clear hMF hB
        obtain ⟨q, A', c', hq, rfl, rfl, hO, hM, hB, hsz⟩ := hrel
        by_cases hlt2 : q < n
        · obtain ⟨ad, s, rfl, h1, h2, h3, h4⟩ := (h.below hB).at_ hlt2
          have hsw := hwf.out s (List.mem_of_getElem? h1)
          have HTk : Hid (svs ((l.take (q + 1)).map (tF (posF a))) = svs ((l.take q).map (tF (posF a))) ++ sv (tF (posF a) s)) := Lib.hid (by
            rw [List.take_add_one, h1, Option.toList_some, List.map_append, svs_append]; rfl)
          obtain ⟨X, hX⟩ : ∃ X, svs ((l.take q).map (tF (posF a))) = X := ⟨_, rfl⟩
          rw [hX] at hO HTk
          clear hX h1
          go_wp2_with fail
          have b1 := (B3.new wr s).alloc (.cells #[.int .i64 s.d, .int .i64 0, .int .i64 0] 31)
          have b2 := B3.new (wr.alloc (.cells #[.int .i64 s.d, .int .i64 s.who, .int .i64 s.of] 31)) ⟨s.d, 0, 0⟩
          have hw1 : Below wr.heap.size wr ((wr.alloc (.cells #[.int .i64 s.d, .int .i64 s.who, .int .i64 s.of] 31)).alloc (.cells #[.int .i64 s.d, .int .i64 0, .int .i64 0] 31)) :=
            nxa ((Below.refl _ wr).alloc (Nat.le_refl _) _) _
          rw [World.size_alloc] at b2
          refine (named_ok (wr.heap.size + 1) 0 s.d _ b2.c0).mono ?_
          rintro e w3 ⟨A5, rfl, hS5, hB3, hA5⟩
          have c1 := b1.below hB3 b1.lt
          have c2 := b2.below hB3 b2.lt
          have hw3 := nx hw1 hB3
          have hT5 : ∀ ad : Addr, A5 = some ad → Tg w3 ad.block 49 := fun ad e => (hA5 ad e).2
          clear hB3 hA5 b1 b2 hw1
          go_wp2_with fail
          refine (named_ok wr.heap.size 0 s.d _ c1.c0).mono ?_
          rintro e w4 ⟨A6, rfl, hS6, hB4, hA6⟩
          have d1 := c1.below hB4 c1.lt
          have d2 := c2.below hB4 c2.lt
          have hw4 := nx hw3 hB4
          have hS5' := hS5.below hB4
          have hT5' : ∀ ad : Addr, A5 = some ad → Tg w4 ad.block 49 := fun ad e => (hT5 ad e).below hB4 (hT5 ad e).lt
          have hT6 : ∀ ad : Addr, A6 = some ad → Tg w4 ad.block 49 := fun ad e => (hA6 ad e).2
          clear hB4 hA6 c1 c2 hw3 hS5 hT5
          obtain ⟨M, hM'⟩ : ∃ M, (nm s.d).length = M := ⟨_, rfl⟩
          rw [hM'] at hS5' hS6 ⊢
          have hMle := nm_len s.d
          rw [hM'] at hMle
          have HMM := Lib.hid hM'
          clear hM'
          obtain ⟨f, hf⟩ : ∃ f, posF a = f := ⟨_, rfl⟩
          rw [hf] at hM HTk
          have HF := Lib.hid hf
          clear hf
          obtain ⟨gs, hgs⟩ : ∃ g, wr.heap.size = g := ⟨_, rfl⟩
          have hle : wr.heap.size ≤ gs + 1 := by omega
          rw [hgs] at d1 d2 hS5' hS6 ⊢
          clear hgs
          go_wp2_with fail
          go_loopw [38] (fun i w5 => ∃ j : Nat, j ≤ M ∧ i = .int .i64 (j : Int) ∧ B3 w5 gs s ∧ B3 w5 (gs + 1) (tJ f s j) ∧ Sl w5 A5 M M (ptrs (gs + 1) 0 (nm s.d)) ∧ Sl w5 A6 M M (ptrs gs 0 (nm s.d)) ∧ (∀ ad : Addr, A5 = some ad → Tg w5 ad.block 49) ∧ (∀ ad : Addr, A6 = some ad → Tg w5 ad.block 49) ∧ Below wr.heap.size wr w5) (fun i _ => M - (intOf i).toNat)
          case atStart => exact ⟨0, Nat.zero_le _, rfl, d1, d2, hS5', hS6, hT5', hT6, hw4⟩
          case round =>
            clear d1 d2 hS5' hS6 hT5' hT6 hw4
            obtain ⟨j, hj, rfl, d1, d2, hS5, hS6, hT5, hT6, hw5⟩ := hrel
            by_cases hjl : j < M
            · have hji : j < (nm s.d).length := by rw [HMM.out]; exact hjl
              obtain ⟨i, hi⟩ : ∃ i, (nm s.d)[j]? = some i := ⟨_, List.getElem?_eq_getElem hji⟩
              obtain ⟨ad5, p5, rfl, hp5, hc5⟩ := hS5.at_ hjl
              obtain ⟨ad6, p6, rfl, hp6, hc6⟩ := hS6.at_ hjl
              rw [ptrs_get _ _ j i hi] at hp5 hp6
              obtain rfl := (Option.some.inj hp5).symm
              obtain rfl := (Option.some.inj hp6).symm
              have hii := nm_mem s.d i (List.mem_of_getElem? hi)
              have HTJ := Lib.hid (tJ_step f s j i hi)
              have hx := d1.at_ hii
              have hxw := fld_wf hsw i
              have hlk := fun q => ((hM.below hw5 hM.lt).drewN q).look hxw
              have hlk1 := ((hM.below hw5 hM.lt).drew).look hxw
              have hd := d2.at_ hii
              have hfz := d2.fz i
              have ij : (j : Int) < (M : Int) := by omega
              have d2' := d2.put hii (f (fld s i))
              obtain ⟨x, hxe⟩ : ∃ x, fld s i = x := ⟨_, rfl⟩
              rw [hxe] at hx hxw hlk hlk1 HTJ d2'
              clear hp5 hp6 hi hji hxe
              go_wp2_with fail
              have e1 := d1.far (a := ⟨gs + 1, i, none⟩) (by simp) (.int .i64 (f x))
              have e5 := hS5.far (a := ⟨gs + 1, i, none⟩) (fun ad e q => (hT5 ad e).ne31 d2.tg q) (.int .i64 (f x))
              have e6 := hS6.far (a := ⟨gs + 1, i, none⟩) (fun ad e q => (hT6 ad e).ne31 d2.tg q) (.int .i64 (f x))
              have ew := hw5.setCell (p := ⟨gs + 1, i, none⟩) hle (.int .i64 (f x))
              go_region
              go_wp2_with fail
              go_roundw
              case rel => exact ⟨j + 1, by omega, by go_num, e1.block rfl, by rw [HTJ.out]; exact d2'.block rfl, e5.block (fun _ _ => rfl), e6.block (fun _ _ => rfl), fun ad e => ((hT5 ad e).set _ _).block rfl, fun ad e => ((hT6 ad e).set _ _).block rfl, ew.drew⟩
              case measure => simp [intOf]; omega
            · obtain rfl : j = M := by omega
              have hMx := (hM.below hw5 hM.lt)
              have hO2 := hO.below hw5
              have hB2 := nx hB hw5
              have hsz2 : w.heap.size + 1 ≤ wr.heap.size := by have := hw5.size; omega
              clear hS5 hS6 hT5 hT6
              by_cases h7 : s.d = 7
              · obtain ⟨f1, f2, f3⟩ := tF_seven f s h7
                have hj0 : j = 0 := by have := HMM.out; rw [f2] at this; simpa using this.symm
                have hd2 : B3 wr (gs + 1) ⟨s.d, 0, 0⟩ := by rw [← f1, ← hj0]; exact d2
                have d3 := hd2.put (i := 2) (.inr rfl) s.of
                have t7 : (s.d == 7) = true := by rw [beq_iff_eq]; exact h7
                have hfz := hd2.fz 2
                have hd1 := d1.c0; have hd3 := d1.c2; have he3 := hd2.c2
                have hwX := hw5.setCell (p := ⟨gs + 1, 2, none⟩) hle (.int .i64 s.of)
                have hszX := Nat.le_trans hsz hwX.size
                have hOX := hO.below hwX
                have hBX := nx hB hwX
                have hMX := hM.below hwX hM.lt
                have ht : setF ⟨s.d, 0, 0⟩ 2 s.of = tF f s := by rw [f3]; rfl
                rw [ht] at d3
                obtain ⟨t, hte⟩ : ∃ t, tF f s = t := ⟨_, rfl⟩
                rw [hte] at d3 HTk
                have q0 := d3.c0; have q1 := d3.c1; have q2 := d3.c2
                clear hte f1 f2 f3 hj0 hd2 d2 ht
                go_wp2_with (at_builtin; refine wpList_app (o := ⟨some 63, _, _, _, _, _⟩) E22 rfl rfl rfl (hOX.alloc _) rfl (lies_sv _ t _ (by simp)) rfl (svs_one [t]) (by unfold maxLen; omega) (by omega) (Nat.le_trans hszX (by simp)) ?_; intro A8 c8 w8 hO8 hG8 hB8)
                go_roundw
                case rel =>
                  have hbb : w.heap.size + 1 ≤ w8.heap.size := by have := hB8.size; simp at this; have := hszX; simp at this; omega
                  exact ⟨q + 1, A8, c8, by omega, by go_num, rfl, by rw [HF.out, HTk.out]; exact hO8, by rw [HF.out]; exact (hMX.alloc _).below hB8 (Nat.lt_succ_self _), (hBX.alloc (by have := hszX; omega) _).trans (hB8.mono (by omega)), hbb⟩
                case measure => simp [intOf]; omega
              · have t7 : (s.d == 7) = false := by rw [beq_eq_false_iff_ne]; exact h7
                have ht : tJ f s j = tF f s := by unfold tF; rw [if_neg h7]; exact tJ_all f s j (by rw [HMM.out]; exact Nat.le_refl _)
                rw [ht] at d2
                obtain ⟨t, hte⟩ : ∃ t, tF f s = t := ⟨_, rfl⟩
                rw [hte] at d2 HTk
                have hd1 := d1.c0
                have q0 := d2.c0; have q1 := d2.c1; have q2 := d2.c2
                clear hte ht d2
                go_wp2_with (at_builtin; refine wpList_app (o := ⟨some 63, _, _, _, _, _⟩) E22 rfl rfl rfl (hO2.alloc _) rfl (lies_sv _ t _ rfl) rfl (svs_one [t]) (by unfold maxLen; omega) (by omega) (Nat.le_trans hsz2 (by simp)) ?_; intro A8 c8 w8 hO8 hG8 hB8)
                go_roundw
                case rel =>
                  have hbb : w.heap.size + 1 ≤ w8.heap.size := by have := hB8.size; simp at this; omega
                  exact ⟨q + 1, A8, c8, by omega, by go_num, rfl, by rw [HF.out, HTk.out]; exact hO8, by rw [HF.out]; exact (hMx.alloc _).below hB8 (Nat.lt_succ_self _), (hB2.alloc (by omega) _).trans (hB8.mono (by omega)), hbb⟩
                case measure => simp [intOf]; omega
        · obtain rfl : q = n := by omega
          have HT : Hid ((l.take q).map (tF (posF a)) = canL l) := Lib.hid (by rw [HC.out, ← HL.out, List.take_length])
          rw [HT.out] at hO
          clear hM
          go_wp2_with fail
          go_ret
          exact ⟨A', c', rfl, hO.mono (by omega), hB⟩
end Go.Proofs.Ytejoiamdhjhjhaa
