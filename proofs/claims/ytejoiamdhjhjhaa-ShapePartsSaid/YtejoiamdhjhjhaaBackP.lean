/- Plain: a script renamed has the same shape; swapped and swapped back it is as it was; two arrays of kinds compared. -/
import Derived.Test.YtejoiamdhjhjhaaSwapWalk
import Derived.Test.YtejoiamdhjhjhaaLive
import Derived.Test.YtejoiamdhjhjhaaFindsP
import Derived.ChangeKeysEq
import Derived.Laws.StructEq
namespace Go.Proofs.Ytejoiamdhjhjhaa
open Go.RowKit
theorem part8 (f : Nat → Nat) (w : World) (i : Nat) (hi : i < 8) (xs : Array Value) (hx : kagg f = .agg xs) : (part 3 xs i).run Try.prog w = .ok (.int .i64 (f i : Nat)) w := by
  unfold kagg at hx; injection hx with hx; subst hx
  have h8 : i = 0 ∨ i = 1 ∨ i = 2 ∨ i = 3 ∨ i = 4 ∨ i = 5 ∨ i = 6 ∨ i = 7 := by omega
  rcases h8 with rfl | rfl | rfl | rfl | rfl | rfl | rfl | rfl <;> rfl
theorem eq3 (d : Nat) (x : Int) (w : World) : (Op.equalIn (d + 1) 3 (.int .i64 x) (.int .i64 x)).run Try.prog w = .ok true w := by
  simp [Op.equalIn]
theorem arr_eq (f : Nat → Nat) (w : World) : (Op.equalIn 10000 33 (kagg f) (kagg f)).run Try.prog w = .ok true w := by
  obtain ⟨xs, hx⟩ : ∃ xs, kagg f = .agg xs := ⟨_, rfl⟩
  have hp := fun i hi => part8 f w i hi xs hx
  have hc : Try.prog.cellsOf 3 = 1 := by kernel_rfl
  have hs : (Try.prog.info? 3).isSome = true := by kernel_rfl
  obtain ⟨i, hi⟩ := Option.isSome_iff_exists.1 hs
  rw [hx, run_equalIn_array (P := Try.prog) w 9999 (n := 8) xs xs Try.underlying33 hi, hc]
  show (Op.eqItems 9999 3 1 xs xs [0, 1, 2, 3, 4, 5, 6, 7]).run Try.prog w = _
  simp only [Op.eqItems, Sem.run_bind, Nat.mul_one, hp 0 (by omega), hp 1 (by omega), hp 2 (by omega), hp 3 (by omega), hp 4 (by omega), hp 5 (by omega), hp 6 (by omega), hp 7 (by omega), Result.andThen_ok, eq3 9998, Bool.not_true, Bool.false_eq_true, if_false, Sem.run_pure]
theorem arr_eql (f : Nat → Nat) (w : World) : (binOp .eql 33 (kagg f) (kagg f)).run Try.prog w = .ok (.bool true) w := by
  have := arr_eq f w
  unfold kagg at this ⊢
  rw [run_eql_struct, this]; rfl
theorem arr_neq (f : Nat → Nat) (w : World) : (binOp .neq 33 (kagg f) (kagg f)).run Try.prog w = .ok (.bool false) w := by
  have := arr_eq f w
  unfold kagg at this ⊢
  rw [run_neq_struct, this]; rfl
/-- one step is another's, renamed -/
def Ren (φ : Int → Int) (s t : St) : Prop := t.d = s.d ∧ (∀ j ∈ nm s.d, fld t j = φ (fld s j)) ∧ (s.d = 7 → t.of = s.of)
theorem who_ren {φ : Int → Int} {s t : St} (h : Ren φ s t) : who t = (who s).map φ := by
  unfold who
  rw [h.1, List.map_map]
  exact List.map_congr_left fun j hj => h.2.1 j hj
section
variable {φ : Int → Int} {S : Int → Prop} (hinj : ∀ x y, S x → S y → φ x = φ y → x = y)
include hinj
theorem mem_ren {o : List Int} {x : Int} (ho : ∀ y ∈ o, S y) (hx : S x) : φ x ∈ o.map φ ↔ x ∈ o := by
  rw [List.mem_map]
  constructor
  · rintro ⟨y, hy, e⟩
    have := hinj y x (ho y hy) hx e
    exact this ▸ hy
  · exact fun h => ⟨x, h, rfl⟩
theorem add1_ren {o : List Int} {x : Int} (ho : ∀ y ∈ o, S y) (hx : S x) : add1 (o.map φ) (φ x) = (add1 o x).map φ := by
  unfold add1
  by_cases h : x ∈ o
  · rw [if_pos h, if_pos ((mem_ren hinj ho hx).2 h)]
  · rw [if_neg h, if_neg (fun q => h ((mem_ren hinj ho hx).1 q))]; simp
omit hinj in
theorem add1_S {o : List Int} {x : Int} (ho : ∀ y ∈ o, S y) (hx : S x) : ∀ y ∈ add1 o x, S y := fun y hy => by
  rcases (mem_add1 o x y).1 hy with h | h
  · exact ho y h
  · exact h ▸ hx
theorem fold_ren : ∀ (xs o : List Int), (∀ y ∈ o, S y) → (∀ y ∈ xs, S y) → (xs.map φ).foldl add1 (o.map φ) = (xs.foldl add1 o).map φ
  | [], o, _, _ => rfl
  | x :: r, o, ho, hx => by
    have h1 := hx x List.mem_cons_self
    rw [List.map_cons, List.foldl_cons, List.foldl_cons, add1_ren hinj ho h1]
    exact fold_ren r (add1 o x) (add1_S ho h1) (fun y hy => hx y (List.mem_cons_of_mem _ hy))
theorem act_ren (g : St → St) (l : List St) (hg : ∀ s ∈ l, Ren φ s (g s)) (hS : ∀ s ∈ l, ∀ x ∈ who s, S x) : actL (l.map g) = (actL l).map φ := by
  have key : ∀ (l : List St) (o : List Int), (∀ s ∈ l, Ren φ s (g s)) → (∀ s ∈ l, ∀ x ∈ who s, S x) → (∀ y ∈ o, S y) → (l.map g).foldl addS (o.map φ) = (l.foldl addS o).map φ := by
    intro l
    induction l with
    | nil => intro o _ _ _; rfl
    | cons s r ih =>
      intro o h1 h2 h3
      have hw := h2 s List.mem_cons_self
      have e : addS (o.map φ) (g s) = (addS o s).map φ := by
        unfold addS
        rw [who_ren (h1 s List.mem_cons_self)]
        exact fold_ren hinj _ _ h3 hw
      rw [List.map_cons, List.foldl_cons, List.foldl_cons, e]
      refine ih _ (fun t ht => h1 t (List.mem_cons_of_mem _ ht)) (fun t ht => h2 t (List.mem_cons_of_mem _ ht)) ?_
      intro y hy
      rcases (mem_fold (who s) o y).1 hy with q | q
      · exact h3 y q
      · exact hw y q
  have := key l [] hg hS (by simp)
  simpa [actL] using this
theorem idx_ren : ∀ (a : List Int) (x : Int), (∀ y ∈ a, S y) → S x → idx (a.map φ) (φ x) = idx a x
  | [], x, _, _ => rfl
  | y :: r, x, ha, hx => by
    have hy := ha y List.mem_cons_self
    rw [List.map_cons]
    unfold idx
    by_cases e : y = x
    · rw [if_pos e, if_pos (by rw [e])]
    · rw [if_neg e, if_neg (fun q => e (hinj y x hy hx q)), idx_ren r x (fun z hz => ha z (List.mem_cons_of_mem _ hz)) hx]
theorem pos_ren (a : List Int) (x : Int) (ha : ∀ y ∈ a, S y) (hx : S x) : posF (a.map φ) (φ x) = posF a x := by
  unfold posF
  by_cases h : x ∈ a
  · rw [if_pos h, if_pos ((mem_ren hinj ha hx).2 h), idx_ren hinj a x ha hx]
  · rw [if_neg h, if_neg (fun q => h ((mem_ren hinj ha hx).1 q))]
end
theorem tF_congr {f f' : Int → Int} {s t : St} (hd : t.d = s.d) (hf : ∀ j ∈ nm s.d, f' (fld t j) = f (fld s j)) (h7 : s.d = 7 → t.of = s.of) : tF f' t = tF f s := by
  unfold tF
  rw [hd]
  by_cases e : s.d = 7
  · rw [if_pos e, if_pos e, h7 e]
  · rw [if_neg e, if_neg e]
    unfold tJ
    rw [hd]
    rcases nm_cases s.d with ⟨h, _⟩ | ⟨h, _⟩ | h
    · rw [h] at hf ⊢
      have := hf 1 (by simp)
      simp [this]
    · rw [h] at hf ⊢
      have h1 := hf 1 (by simp)
      have h2 := hf 2 (by simp)
      simp [h1, h2]
    · rw [h]; rfl
theorem can_ren {φ : Int → Int} {S : Int → Prop} (hinj : ∀ x y, S x → S y → φ x = φ y → x = y) (g : St → St) (l : List St) (hg : ∀ s ∈ l, Ren φ s (g s)) (hS : ∀ s ∈ l, ∀ x ∈ who s, S x) : canL (l.map g) = canL l := by
  have ha : ∀ y ∈ actL l, S y := fun y hy => by
    obtain ⟨s, hs, hw⟩ := (mem_act l y).1 hy
    exact hS s hs y hw
  unfold canL
  rw [act_ren hinj g l hg hS, List.map_map]
  refine List.map_congr_left fun s hs => ?_
  obtain ⟨h1, h2, h3⟩ := hg s hs
  refine tF_congr h1 (fun j hj => ?_) h3
  rw [h2 j hj]
  exact pos_ren hinj _ _ ha (hS s hs _ ((mem_who s _).2 ⟨j, hj, rfl⟩))
theorem kcnt_ren {φ : Int → Int} (g : St → St) (l : List St) (hg : ∀ s ∈ l, Ren φ s (g s)) : kcnt (l.map g) = kcnt l := by
  funext i
  unfold kcnt
  rw [List.countP_map]
  refine List.countP_congr fun s hs => ?_
  simp only [Function.comp, (hg s hs).1]
theorem tF_ren (f : Int → Int) (s : St) : Ren f s (tF f s) := by
  refine ⟨(tF_fld f s).1, (tF_fld f s).2, fun h => ?_⟩
  unfold tF; rw [if_pos h]
theorem pos_inj (a : List Int) (x y : Int) (hx : x ∈ a) (hy : y ∈ a) (h : posF a x = posF a y) : x = y := by
  rw [pos_mem hx, pos_mem hy] at h
  have e : idx a x = idx a y := by omega
  have h1 := (idx_lt a x hx).2
  have h2 := (idx_lt a y hy).2
  rw [e, h2] at h1
  exact (Option.some.inj h1).symm
theorem who_S (l : List St) : ∀ s ∈ l, ∀ x ∈ who s, x ∈ actL l := fun s hs x hx => (mem_act l x).2 ⟨s, hs, hx⟩
/-- a shape's shape -/
theorem can_can (l : List St) : canL (canL l) = canL l :=
  can_ren (S := fun x => x ∈ actL l) (pos_inj (actL l)) (tF (posF (actL l))) l (fun s _ => tF_ren _ s) (who_S l)
theorem can_kcnt (l : List St) : kcnt (canL l) = kcnt l := kcnt_ren (φ := posF (actL l)) (tF (posF (actL l))) l (fun s _ => tF_ren _ s)
theorem pos_wf (a : List Int) (ha : a.length ≤ 2000) (x : Int) : Wf (posF a x) := by
  unfold posF
  split
  · rename_i h
    have := (idx_lt a x h).1
    exact ⟨by omega, by omega⟩
  · exact ⟨by omega, by omega⟩
theorem zero_wf : Wf 0 := ⟨by omega, by omega⟩
theorem can_wf {l : List St} (hn : l.length ≤ 1000) (h : ∀ s ∈ l, StWf s) : ∀ s ∈ canL l, StWf s := by
  intro t ht
  have hal := act_len l
  obtain ⟨s, hs, rfl⟩ := List.mem_map.1 ht
  have hw := h s hs
  have hp := fun x => pos_wf (actL l) (by omega) x
  unfold tF
  split
  · exact ⟨hw.1, zero_wf, hw.2.2⟩
  · rename_i h7
    unfold tJ
    rcases nm_cases s.d with ⟨e, _⟩ | ⟨e, _⟩ | e
    · rw [e]; exact ⟨hw.1, hp _, zero_wf⟩
    · rw [e]; exact ⟨hw.1, hp _, hp _⟩
    · rw [e]; exact ⟨hw.1, zero_wf, zero_wf⟩
/-- a number's other -/
def pF (p : List Int) (x : Int) : Int := p.getD x.toNat 0
theorem sw_eq (p : List Int) (s : St) : (nm s.d = [1] ∧ s.d ≠ 7 ∧ swF p s = ⟨s.d, pF p s.who, s.of⟩) ∨ (nm s.d = [1, 2] ∧ s.d ≠ 7 ∧ swF p s = ⟨s.d, pF p s.who, pF p s.of⟩) ∨ (nm s.d = [] ∧ swF p s = s) := by
  unfold swF swJ
  rcases nm_cases s.d with ⟨e, h⟩ | ⟨e, h⟩ | e
  · left; refine ⟨e, h, ?_⟩; rw [e]; rfl
  · right; left; refine ⟨e, h, ?_⟩; rw [e]; rfl
  · right; right; refine ⟨e, ?_⟩; rw [e]; rfl
theorem sw_ren (p : List Int) (s : St) : Ren (pF p) s (swF p s) := by
  rcases sw_eq p s with ⟨e, h, q⟩ | ⟨e, h, q⟩ | ⟨e, q⟩
  · rw [q]; refine ⟨rfl, fun j hj => ?_, fun h' => absurd h' h⟩
    rw [e] at hj
    obtain rfl : j = 1 := by simpa using hj
    rfl
  · rw [q]; refine ⟨rfl, fun j hj => ?_, fun h' => absurd h' h⟩
    rw [e] at hj
    have : j = 1 ∨ j = 2 := by simpa using hj
    rcases this with rfl | rfl <;> rfl
  · rw [q]; refine ⟨rfl, fun j hj => ?_, fun _ => rfl⟩
    rw [e] at hj; cases hj
theorem pF_get {p : List Int} {x : Int} (h : 0 ≤ x ∧ x < (p.length : Int)) : p[x.toNat]? = some (pF p x) := by
  have hl : x.toNat < p.length := by omega
  unfold pF
  rw [List.getD_eq_getElem?_getD, List.getElem?_eq_getElem hl]; rfl
theorem pF_inj {p : List Int} (hp : IsP p) (x y : Int) (hx : 0 ≤ x ∧ x < (p.length : Int)) (hy : 0 ≤ y ∧ y < (p.length : Int)) (h : pF p x = pF p y) : x = y := by
  have h1 := idx_get p _ _ hp.2 (pF_get hx)
  have h2 := idx_get p _ _ hp.2 (pF_get hy)
  rw [h] at h1
  omega
theorem pF_in {p : List Int} (hp : IsP p) {x : Int} (hx : 0 ≤ x ∧ x < (p.length : Int)) : 0 ≤ pF p x ∧ pF p x < (p.length : Int) :=
  hp.1 _ (List.mem_of_getElem? (pF_get hx))
theorem inr_S {p : List Int} {l : List St} (h : ∀ s ∈ l, InR p s) : ∀ s ∈ l, ∀ x ∈ who s, 0 ≤ x ∧ x < (p.length : Int) := fun s hs x hx => by
  obtain ⟨j, hj, rfl⟩ := (mem_who s x).1 hx
  exact h s hs j hj
theorem sw_can {p : List Int} (hp : IsP p) {l : List St} (h : ∀ s ∈ l, InR p s) : canL (l.map (swF p)) = canL l :=
  can_ren (S := fun x => 0 ≤ x ∧ x < (p.length : Int)) (pF_inj hp) (swF p) l (fun s _ => sw_ren p s) (inr_S h)
theorem sw_act {p : List Int} (hp : IsP p) {l : List St} (h : ∀ s ∈ l, InR p s) : (actL (l.map (swF p))).length = (actL l).length := by
  rw [act_ren (S := fun x => 0 ≤ x ∧ x < (p.length : Int)) (pF_inj hp) (swF p) l (fun s _ => sw_ren p s) (inr_S h), List.length_map]
theorem sw_kcnt (p : List Int) (l : List St) : kcnt (l.map (swF p)) = kcnt l := kcnt_ren (φ := pF p) (swF p) l (fun s _ => sw_ren p s)
/-- no more numbers than places -/
theorem few_fit : ∀ (n : Nat) (p : List Int), p.Nodup → (∀ x ∈ p, 0 ≤ x ∧ x < (n : Int)) → p.length ≤ n
  | 0, p, _, h => by
    cases p with
    | nil => simp
    | cons x r => have := h x List.mem_cons_self; omega
  | n + 1, p, hn, h => by
    have ih := few_fit n (p.erase (n : Int)) (hn.erase _) (fun x hx => by
      have h1 := (hn.mem_erase_iff).1 hx
      have h2 := h x h1.2
      have h3 := h1.1
      exact ⟨h2.1, by omega⟩)
    by_cases m : (n : Int) ∈ p
    · rw [List.length_erase_of_mem m] at ih; omega
    · rw [List.erase_of_not_mem m] at ih; omega
theorem isp_all {p : List Int} (hp : IsP p) (j : Nat) (hj : j < p.length) : (j : Int) ∈ p := by
  apply Classical.byContradiction
  intro hn
  have := few_fit p.length ((j : Int) :: p) (List.nodup_cons.2 ⟨hn, hp.2⟩) (fun x hx => by
    rcases List.mem_cons.1 hx with rfl | hx
    · exact ⟨by omega, by omega⟩
    · exact hp.1 x hx)
  rw [List.length_cons] at this
  omega
theorem invL_len (p : List Int) : (invL p).length = p.length := rgi_len _ _
theorem invL_get {p : List Int} (hp : IsP p) (j : Nat) (hj : j < p.length) : (invL p)[j]? = some (idx p j : Int) := by
  unfold invL
  rw [rgi_get _ _ j hj]
  unfold invK
  rw [List.take_length, if_pos (isp_all hp j hj)]
theorem invL_isP {p : List Int} (hp : IsP p) : IsP (invL p) := by
  refine ⟨fun x hx => ?_, ?_⟩
  · obtain ⟨j, hj⟩ := List.getElem?_of_mem hx
    have hl := (List.getElem?_eq_some_iff.1 hj).1
    rw [invL_len] at hl
    rw [invL_get hp j hl] at hj
    injection hj with hj
    have := (idx_lt p j (isp_all hp j hl)).1
    rw [invL_len]
    omega
  · unfold invL rgi
    refine List.pairwise_map.2 ?_
    refine List.Pairwise.imp_of_mem ?_ (List.pairwise_lt_range (n := p.length))
    intro a b ha hb hab e
    have ha' := List.mem_range.1 ha
    have hb' := List.mem_range.1 hb
    unfold invK at e
    rw [List.take_length, if_pos (isp_all hp a ha'), if_pos (isp_all hp b hb')] at e
    have h1 := (idx_lt p a (isp_all hp a ha')).2
    have h2 := (idx_lt p b (isp_all hp b hb')).2
    have e' : idx p a = idx p b := by omega
    rw [e', h2] at h1
    injection h1 with h1
    omega
theorem inv_pF {p : List Int} (hp : IsP p) {x : Int} (hx : 0 ≤ x ∧ x < (p.length : Int)) : pF (invL p) (pF p x) = x := by
  have h1 := pF_in hp hx
  have h2 := idx_get p _ _ hp.2 (pF_get hx)
  have h3 := pF_get (p := invL p) (x := pF p x) (by rw [invL_len]; exact h1)
  obtain ⟨y, hy⟩ : ∃ y : Nat, pF p x = y := ⟨(pF p x).toNat, by omega⟩
  rw [hy] at h1 h2 h3 ⊢
  rw [Int.toNat_natCast, invL_get hp y (by omega), h2] at h3
  injection h3 with h3
  omega
theorem sw_back {p : List Int} (hp : IsP p) {s : St} (h : InR p s) : swF (invL p) (swF p s) = s := by
  rcases sw_eq p s with ⟨e, h7, q⟩ | ⟨e, h7, q⟩ | ⟨e, q⟩
  · have hx := h 1 (by rw [e]; simp)
    rw [q]
    rcases sw_eq (invL p) ⟨s.d, pF p s.who, s.of⟩ with ⟨e', _, q'⟩ | ⟨e', _, _⟩ | ⟨e', _⟩
    · rw [q']; rw [inv_pF hp (x := s.who) hx]
    · rw [show nm s.d = [1, 2] from e'] at e; simp at e
    · rw [show nm s.d = [] from e'] at e; simp at e
  · have hx := h 1 (by rw [e]; simp)
    have hy := h 2 (by rw [e]; simp)
    rw [q]
    rcases sw_eq (invL p) ⟨s.d, pF p s.who, pF p s.of⟩ with ⟨e', _, _⟩ | ⟨e', _, q'⟩ | ⟨e', _⟩
    · rw [show nm s.d = [1] from e'] at e; simp at e
    · rw [q']; rw [inv_pF hp (x := s.who) hx, inv_pF hp (x := s.of) hy]
    · rw [show nm s.d = [] from e'] at e; simp at e
  · rw [q]
    rcases sw_eq (invL p) s with ⟨e', _, _⟩ | ⟨e', _, _⟩ | ⟨_, q'⟩
    · rw [e'] at e; simp at e
    · rw [e'] at e; simp at e
    · exact q'
theorem sw_back_all {p : List Int} (hp : IsP p) {l : List St} (h : ∀ s ∈ l, InR p s) : (l.map (swF p)).map (swF (invL p)) = l := by
  rw [List.map_map]
  conv => rhs; rw [← List.map_id l]
  exact List.map_congr_left fun s hs => sw_back hp (h s hs)
theorem sw_inr {p : List Int} (hp : IsP p) {l : List St} (h : ∀ s ∈ l, InR p s) : ∀ s ∈ l.map (swF p), InR (invL p) s := by
  intro t ht
  obtain ⟨s, hs, rfl⟩ := List.mem_map.1 ht
  obtain ⟨h1, h2, _⟩ := sw_ren p s
  intro j hj
  rw [h1] at hj
  rw [h2 j hj, invL_len]
  exact pF_in hp (h s hs j hj)
theorem sw_wf {p : List Int} (hp : IsP p) (hl : p.length ≤ 1000) {l : List St} (h : ∀ s ∈ l, InR p s) (hw : ∀ s ∈ l, StWf s) : ∀ s ∈ l.map (swF p), StWf s := by
  intro t ht
  obtain ⟨s, hs, rfl⟩ := List.mem_map.1 ht
  have w := hw s hs
  have key : ∀ j ∈ nm s.d, Wf (pF p (fld s j)) := fun j hj => by
    have := pF_in hp (h s hs j hj)
    exact ⟨by omega, by omega⟩
  rcases sw_eq p s with ⟨e, _, q⟩ | ⟨e, _, q⟩ | ⟨e, q⟩
  · rw [q]; exact ⟨w.1, key 1 (by rw [e]; simp), w.2.2⟩
  · rw [q]; exact ⟨w.1, key 1 (by rw [e]; simp), key 2 (by rw [e]; simp)⟩
  · rw [q]; exact w
end Go.Proofs.Ytejoiamdhjhjhaa
