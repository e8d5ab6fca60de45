/- Steps as cells; the walk of shape.named. -/
import Derived.Test.YtejoiamdhjhjhaaMaps
import Derived.Lib.Hide
import Derived.Laws.EntriesVeiled
namespace Go.Proofs.Ytejoiamdhjhjhaa
open Go.RowKit

/-- a step: what, who, of whom -/
structure St where
  d : Int
  who : Int
  of : Int
/-- the places of a step where someone is named -/
def nm (d : Int) : List Nat := if d = 1 ∨ d = 3 ∨ d = 5 ∨ d = 6 then [1] else if d = 2 ∨ d = 4 then [1, 2] else []
def ptrs (g o : Nat) (l : List Nat) : List Value := l.map fun i => .pointer (some ⟨g, o + i, none⟩)
/-- what a block holds cells of -/
def Tg (w : World) (g : Nat) (t : TypeId) : Prop := ∃ cs fr, w.heap[g]? = some (.cells cs t fr)
theorem Tg.new (w : World) (cs : Array Value) (t : TypeId) : Tg (w.alloc (.cells cs t)) w.heap.size t := ⟨cs, _, heap_alloc_new w _⟩
theorem Tg.lt {w : World} {g : Nat} {t : TypeId} (h : Tg w g t) : g < w.heap.size := by
  obtain ⟨cs, fr, h⟩ := h
  exact (Array.getElem?_eq_some_iff.1 h).1
theorem Tg.block {w w' : World} {g : Nat} {t : TypeId} (h : Tg w g t) (e : w'.heap[g]? = w.heap[g]?) : Tg w' g t := let ⟨cs, fr, h⟩ := h; ⟨cs, fr, e.trans h⟩
theorem Tg.alloc {w : World} {g : Nat} {t : TypeId} (h : Tg w g t) (o : Obj) : Tg (w.alloc o) g t := h.block (Below.heap_alloc w o g h.lt)
theorem Tg.below {w w' : World} {g B : Nat} {t : TypeId} (h : Tg w g t) (hb : Below B w w') (hg : g < B) : Tg w' g t := h.block (hb.block g hg)
theorem Tg.grown {w w' : World} {g : Nat} {t : TypeId} {row : Option Nat} (h : Tg w g t) (hg : w.grownBy w' row) (hne : some g ≠ row) : Tg w' g t := h.block (hg.block g h.lt hne)
/-- a row of another type is another block -/
theorem Tg.ne_row {w : World} {g base n c : Nat} {t e : TypeId} {A : Option Addr} {xs : List Value} {size : Nat} (h : Tg w g t) (ho : Ow w base e size A n c xs) (hne : t ≠ e) : some g ≠ (Value.slice A n c).ownBlock := by
  rcases ho.2 with ⟨hv, _⟩ | ⟨g', cap, cur, hv, _, hh, _⟩
  · injection hv with e1; subst e1; intro q; cases q
  · injection hv with e1; subst e1
    intro q
    have hq : g = g' := by injection q
    subst hq
    obtain ⟨cs, fr, h⟩ := h
    rw [hh] at h
    injection h with h; injection h with _ h _
    exact hne h.symm
theorem Lies.block {w w' : World} {A : Option Addr} {xs : List Value} (h : Lies w A xs) (e : ∀ ad : Addr, A = some ad → w'.heap[ad.block]? = w.heap[ad.block]?) : Lies w' A xs := by
  rcases h with h | ⟨ad, rfl, hc⟩
  · exact .inl h
  · refine .inr ⟨ad, rfl, fun k v hv => ?_⟩
    rw [← hc k v hv]
    refine World.cell?_of_block ?_
    rw [blk_add]; exact e ad rfl
theorem Sl.block {w w' : World} {A : Option Addr} {n c : Nat} {xs : List Value} (h : Sl w A n c xs) (e : ∀ ad : Addr, A = some ad → w'.heap[ad.block]? = w.heap[ad.block]?) : Sl w' A n c xs := ⟨h.len, h.cap, h.top, h.lies.block e⟩
theorem ptrs_get (g : Nat) (l : List Nat) (j i : Nat) (h : l[j]? = some i) : (ptrs g 0 l)[j]? = some (.pointer (some ⟨g, i, none⟩)) := by simp [ptrs, h]
theorem lies_one (w : World) (v : Value) (t : TypeId) (g : Nat) (hg : w.heap.size = g) : Lies (w.alloc (.cells #[v] t)) (some ⟨g, 0, none⟩) [v] := by
  subst hg; exact lies_cells w #[v] t
theorem lies_two (w : World) (u v : Value) (t : TypeId) (g : Nat) (hg : w.heap.size = g) : Lies (w.alloc (.cells #[u, v] t)) (some ⟨g, 0, none⟩) [u, v] := by
  subst hg; exact lies_cells w #[u, v] t
theorem named_ok (g o : Nat) (d : Int) (w : World) (hd : w.cell? ⟨g, o, none⟩ = some (.int .i64 d)) :
    Calls Try.prog 26 #[.pointer (some ⟨g, o, none⟩)] w fun e w' => ∃ A, e = .returned (.slice A (nm d).length (nm d).length) ∧ Sl w' A (nm d).length (nm d).length (ptrs g o (nm d)) ∧ Below w.heap.size w w' ∧ ∀ ad : Addr, A = some ad → w.heap.size ≤ ad.block ∧ Tg w' ad.block 49 := by
  by_cases h1 : d = 1 ∨ d = 3 ∨ d = 5 ∨ d = 6
  · have hn : nm d = [1] := if_pos h1
    rw [hn]
    rcases h1 with rfl | rfl | rfl | rfl
    all_goals
      go_enter Try.func26, Try.ntmps26
      go_wp2
      go_ret
      exact ⟨_, rfl, ⟨rfl, Nat.le_refl _, by unfold maxLen; simp, lies_one _ _ _ _ rfl⟩, (Below.refl _ w).alloc (Nat.le_refl _) _, fun ad e => by injection e with e; subst e; exact ⟨Nat.le_refl _, Tg.new _ _ _⟩⟩
  · by_cases h2 : d = 2 ∨ d = 4
    · have hn : nm d = [1, 2] := by unfold nm; rw [if_neg h1, if_pos h2]
      rw [hn]
      rcases h2 with rfl | rfl
      all_goals
        go_enter Try.func26, Try.ntmps26
        go_wp2
        go_region
        all_goals go_wp2
        all_goals go_ret
        all_goals exact ⟨_, rfl, ⟨rfl, Nat.le_refl _, by unfold maxLen; simp, lies_two _ _ _ _ _ rfl⟩, (Below.refl _ w).drew.alloc (Nat.le_refl _) _, fun ad e => by injection e with e; subst e; exact ⟨Nat.le_refl _, Tg.new _ _ _⟩⟩
    · have hn : nm d = [] := by unfold nm; rw [if_neg h1, if_neg h2]
      rw [hn]
      have t1 : (d == 1) = false := by rw [beq_eq_false_iff_ne]; omega
      have t2 : (d == 2) = false := by rw [beq_eq_false_iff_ne]; omega
      have t3 : (d == 3) = false := by rw [beq_eq_false_iff_ne]; omega
      have t4 : (d == 4) = false := by rw [beq_eq_false_iff_ne]; omega
      have t5 : (d == 5) = false := by rw [beq_eq_false_iff_ne]; omega
      have t6 : (d == 6) = false := by rw [beq_eq_false_iff_ne]; omega
      clear h1 h2
      go_enter Try.func26, Try.ntmps26
      go_wp2
      go_ret
      exact ⟨_, rfl, Sl.none w, Below.refl _ _, fun ad e => by cases e⟩

def sv (s : St) : List Value := [.int .i64 s.d, .int .i64 s.who, .int .i64 s.of]
def svs : List St → List Value
  | [] => []
  | s :: r => .int .i64 s.d :: .int .i64 s.who :: .int .i64 s.of :: svs r
theorem svs_len : ∀ l : List St, (svs l).length = 3 * l.length
  | [] => rfl
  | s :: r => by simp [svs, svs_len r]; omega
theorem svs_append : ∀ a b : List St, svs (a ++ b) = svs a ++ svs b
  | [], b => rfl
  | s :: r, b => by simp [svs, svs_append r b]
theorem svs_get : ∀ (l : List St) (k : Nat) (s : St), l[k]? = some s → (svs l)[3 * k]? = some (.int .i64 s.d) ∧ (svs l)[3 * k + 1]? = some (.int .i64 s.who) ∧ (svs l)[3 * k + 2]? = some (.int .i64 s.of)
  | [], k, s, h => by simp at h
  | x :: r, 0, s, h => by simp at h; subst h; simp [svs]
  | x :: r, k + 1, s, h => by
    have := svs_get r k s (by simpa using h)
    rw [show 3 * (k + 1) = 3 * k + 3 by omega, show 3 * k + 3 + 1 = 3 * k + 1 + 3 by omega, show 3 * k + 3 + 2 = 3 * k + 2 + 3 by omega]
    simpa [svs] using this
theorem svs_one (l : List St) : ∀ u ∈ svs l, u.oneCell' = true := by
  induction l with
  | nil => intro u hu; cases hu
  | cons s r ih =>
    intro u hu
    simp only [svs, List.mem_cons] at hu
    rcases hu with rfl | rfl | rfl | hu
    · rfl
    · rfl
    · rfl
    · exact ih u hu
/-- the three cells of a step -/
def At3 (w : World) (p : Addr) (s : St) : Prop := w.cell? p = some (.int .i64 s.d) ∧ w.cell? ⟨p.block, p.off + 1, none⟩ = some (.int .i64 s.who) ∧ w.cell? ⟨p.block, p.off + 2, none⟩ = some (.int .i64 s.of)
/-- a slice of steps -/
structure Ss (w : World) (A : Option Addr) (n c : Nat) (l : List St) : Prop where
  len : l.length = n
  cap : n ≤ c
  top : c ≤ maxLen
  lies : l = [] ∨ ∃ ad, A = some ad ∧ ∀ (k : Nat) (s : St), l[k]? = some s → At3 w (ad.add (k * 3)) s
theorem At3.keep {w w' : World} {p : Addr} {s : St} (h : At3 w p s) (hk : ∀ q : Addr, q.block < w.heap.size → w'.cell? q = w.cell? q) : At3 w' p s :=
  ⟨(hk _ (World.block_lt_of_cell? w _ h.1)).trans h.1, (hk _ (World.block_lt_of_cell? w _ h.2.1)).trans h.2.1, (hk _ (World.block_lt_of_cell? w _ h.2.2)).trans h.2.2⟩
section
variable {w w' : World} {A : Option Addr} {n c : Nat} {l : List St}
theorem Ss.none (w : World) : Ss w Option.none 0 0 [] := ⟨rfl, Nat.le_refl _, Nat.zero_le _, .inl rfl⟩
theorem Ss.keep (h : Ss w A n c l) (hk : ∀ q : Addr, q.block < w.heap.size → w'.cell? q = w.cell? q) : Ss w' A n c l := by
  refine ⟨h.len, h.cap, h.top, ?_⟩
  rcases h.lies with e | ⟨ad, hA, hc⟩
  · exact .inl e
  · exact .inr ⟨ad, hA, fun k s hs => (hc k s hs).keep hk⟩
theorem Ss.below (h : Ss w A n c l) (hb : Below w.heap.size w w') : Ss w' A n c l := h.keep fun _ hp => hb.cell hp
theorem Ss.alloc (h : Ss w A n c l) (o : Obj) : Ss (w.alloc o) A n c l := h.keep fun p hp => World.cell?_alloc_lt w o p hp
theorem Ss.drewN (h : Ss w A n c l) (k : Nat) : Ss (w.drewN k) A n c l := ⟨h.len, h.cap, h.top, h.lies⟩
theorem Ss.at_ (h : Ss w A n c l) {k : Nat} (hk : k < n) : ∃ ad s, A = some ad ∧ l[k]? = some s ∧ At3 w (ad.add (k * 3)) s := by
  have hl : k < l.length := by have := h.len; omega
  have hs := List.getElem?_eq_getElem hl
  rcases h.lies with e | ⟨ad, hA, hc⟩
  · rw [e] at hl; simp at hl
  · exact ⟨ad, _, hA, hs, hc _ _ hs⟩
/-- cells in a row of one's own, as steps -/
theorem Ss.of_lies {g : Nat} (hl : l.length = n) (hc : n ≤ c) (ht : c ≤ maxLen) (h : Lies w (some ⟨g, 0, Option.none⟩) (svs l)) : Ss w (some ⟨g, 0, Option.none⟩) n c l := by
  refine ⟨hl, hc, ht, ?_⟩
  rcases h with e | ⟨ad, hA, hcl⟩
  · left
    have := svs_len l
    rw [e] at this
    exact List.eq_nil_of_length_eq_zero (by simp at this; omega)
  · injection hA with hA; subst hA
    refine .inr ⟨_, rfl, fun k s hs => ?_⟩
    obtain ⟨s1, s2, s3⟩ := svs_get l k s hs
    have a1 := hcl _ _ s1; have a2 := hcl _ _ s2; have a3 := hcl _ _ s3
    rw [add_mk] at a1 a2 a3
    rw [add_mk, Nat.mul_comm k 3]
    exact ⟨a1, by rw [Nat.add_assoc]; exact a2, by rw [Nat.add_assoc]; exact a3⟩
end
end Go.Proofs.Ytejoiamdhjhjhaa
