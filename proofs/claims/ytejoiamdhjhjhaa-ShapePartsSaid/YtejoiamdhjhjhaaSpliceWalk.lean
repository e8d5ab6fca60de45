/- The walk of shape.Splice. -/
import Derived.Test.YtejoiamdhjhjhaaChunk
import Derived.Test.YtejoiamdhjhjhaaRefSplice
namespace Go.Proofs.Ytejoiamdhjhjhaa
open Go.RowKit Go.Shelf
attribute [local go_sem] Oper.semAt_some

/-- a script's step in a box -/
def BoxS (W : World) (B : Nat) (s : St) : Prop := W.heap[B]? = some (.cells #[.int .i64 s.d, .int .i64 s.who, .int .i64 s.of] 31 (0, 0))
theorem BoxS.lt {W : World} {B : Nat} {s : St} (h : BoxS W B s) : B < W.heap.size := (Array.getElem?_eq_some_iff.1 h).1
theorem BoxS.new (W : World) (s : St) : BoxS (W.alloc (.cells #[.int .i64 s.d, .int .i64 s.who, .int .i64 s.of] 31)) W.heap.size s := World.alloc_heap_new W _
theorem BoxS.cells {W : World} {B : Nat} {s : St} (h : BoxS W B s) : W.cell? ⟨B, 0, none⟩ = some (.int .i64 s.d) ∧ W.cell? ⟨B, 1, none⟩ = some (.int .i64 s.who) ∧ W.cell? ⟨B, 2, none⟩ = some (.int .i64 s.of) := by
  refine ⟨?_, ?_, ?_⟩ <;> simp [World.cell?, show W.heap[B]? = _ from h]
/-- the cells that the round's own variables lie in, and what lay below -/
structure Bxs (W : World) (G : Nat) (A : Option Addr) (n c m : Nat) (s : St) : Prop where
  bm : Boxed W G 3 (.int .i64 m)
  bs : BoxS W (G + 1) s
  b1 : Boxed W (G + 3) 22 (.slice A n c)
  b2 : Boxed W (G + 4) 3 (.int .i64 m)
theorem Bxs.keep {W W' : World} {G : Nat} {A : Option Addr} {n c m : Nat} {s : St} (h : Bxs W G A n c m s) (e : ∀ b, b < G + 5 → b ≠ G + 2 → W'.heap[b]? = W.heap[b]?) : Bxs W' G A n c m s :=
  ⟨(e G (by omega) (by omega)).trans h.bm, (e (G + 1) (by omega) (by omega)).trans h.bs, (e (G + 3) (by omega) (by omega)).trans h.b1, (e (G + 4) (by omega) (by omega)).trans h.b2⟩
theorem bxs_own {β : Type} (G : Nat) (A : Option Addr) (n c m : Nat) (s : St) : Own (fun (_ : β) W => Bxs W G A n c m s) := fun _ X Y row hs hg hrow => by
  have e : ∀ (b : Nat) (o : Obj), X.heap[b]? = some o → o.isCells = true → Y.heap[b]? = X.heap[b]? := fun b o hb hc => hg.block b (Array.getElem?_eq_some_iff.1 hb).1 (fun q => by
    obtain ⟨o', h1, h2⟩ := hrow b q.symm
    rw [hb] at h1; cases h1; rw [hc] at h2; cases h2)
  exact ⟨(e _ _ hs.bm rfl).trans hs.bm, (e _ _ hs.bs rfl).trans hs.bs, (e _ _ hs.b1 rfl).trans hs.b1, (e _ _ hs.b2 rfl).trans hs.b2⟩
theorem row_ne {W : World} {R e size k : Nat} {v : Value} {xs : List Value} (h : W.ownsRow R e size v k xs) {b : Nat} (hb : b < R) : some b ≠ v.ownBlock := by
  rcases h.2 with ⟨rfl, _⟩ | ⟨g, cap, cur, rfl, hg, _, _⟩
  · simp [Value.ownBlock]
  · intro e'
    obtain rfl : b = g := by simpa [Value.ownBlock] using e'
    omega
/-- out = append(out, ..): what lies behind the append and the store -/
theorem put_all {W0 w1 : World} {R B n₀ : Nat} {v v' : Value} {k k' : Nat} {xs ys : List Value} (hv : Boxed W0 B 22 v) (hrow : W0.ownsRow R 31 3 v k xs) (hB : B < R) (hn : n₀ ≤ B) (hsz : n₀ ≤ W0.heap.size)
    (hown' : w1.ownsRow R 31 3 v' k' ys) (hgrow : W0.grownBy w1 v.ownBlock) :
    Boxed w1 B 22 v ∧ Boxed (w1.setCell ⟨B, 0, none⟩ v') B 22 v' ∧ (w1.setCell ⟨B, 0, none⟩ v').ownsRow R 31 3 v' k' ys ∧ KeepsOthers W0 (w1.setCell ⟨B, 0, none⟩ v') ∧ Below n₀ W0 (w1.setCell ⟨B, 0, none⟩ v') ∧
      (∀ b, b < R → b ≠ B → b < W0.heap.size → (w1.setCell ⟨B, 0, none⟩ v').heap[b]? = W0.heap[b]?) := by
  have hv1 : Boxed w1 B 22 v := hv.kept hgrow (row_ne hrow hB)
  refine ⟨hv1, hv1.set v', hown'.kept (grownBy_setCell' w1 B v') (.inr (row_ne hown' hB).symm), ?_, ?_, ?_⟩
  · refine (KeepsOthers.of_grownBy hgrow fun j o ej hj => ?_).trans (KeepsOthers.setCell _ _ _)
    rcases hrow.2 with ⟨rfl, _⟩ | ⟨g, cap, cur, rfl, _, hgb, _⟩
    · simp [Value.ownBlock] at ej
    · obtain rfl : g = j := by simpa [Value.ownBlock] using ej
      rw [hgb] at hj; cases hj; rfl
  · refine (((Below.refl n₀ W0)).grown hgrow hsz fun j ej => ?_).setCell (p := ⟨B, 0, none⟩) hn v'
    rcases hrow.2 with ⟨rfl, _⟩ | ⟨g, cap, cur, rfl, hb, _, _⟩
    · simp [Value.ownBlock] at ej
    · obtain rfl : g = j := by simpa [Value.ownBlock] using ej
      omega
  · intro b hb hne hlt
    exact (Below.heap_setCell w1 ⟨B, 0, none⟩ v' b hne).trans (hgrow.block b hlt (row_ne hrow hb))
theorem svs_drop : ∀ (l : List St) (k : Nat), (svs l).drop (k * 3) = svs (l.drop k)
  | l, 0 => by simp
  | [], k + 1 => by simp [svs]
  | s :: r, k + 1 => by
    rw [show (k + 1) * 3 = k * 3 + 3 by omega]
    simpa [svs] using svs_drop r k
theorem svs_take : ∀ (l : List St) (k : Nat), (svs l).take (k * 3) = svs (l.take k)
  | l, 0 => by simp [svs]
  | [], k + 1 => by simp [svs]
  | s :: r, k + 1 => by
    rw [show (k + 1) * 3 = k * 3 + 3 by omega]
    simpa [svs] using svs_take r k
theorem part_lies {W : World} {ad : Addr} {n c : Nat} {l : List St} (h : Ss W (some ad) n c l) (m k : Nat) : ∀ (j : Nat) (u : Value), (svs (part l m k))[j]? = some u → W.cell? ((ad.add (k * m * 3)).add j) = some u := by
  intro j u hj
  have hl := (h.flat.cut (k * m * 3)).take (m * 3)
  rw [svs_drop, svs_take] at hl
  rcases hl with e | ⟨a', e, hc⟩
  · unfold part at hj; rw [e] at hj; simp at hj
  · rw [Option.map_some] at e; injection e with e; subst e
    exact hc j u hj
theorem sv_cells (W : World) (s : St) (g : Nat) (hg : W.heap.size = g) : ∀ (j : Nat) (u : Value), (svs [s])[j]? = some u → (W.alloc (.cells #[.int .i64 s.d, .int .i64 s.who, .int .i64 s.of] 31)).cell? ((⟨g, 0, Option.none⟩ : Addr).add j) = some u := by
  intro j u hj
  rcases lies_sv W s g hg with e | ⟨a, e, hc⟩
  · cases e
  · injection e with e; subst e; exact hc j u hj
theorem info31 : (Try.prog.info? 31).map (fun i => (i.zero, i.size, i.bytes)) = some (some (.agg #[.int .i64 0, .int .i64 0, .int .i64 0]), 3, 24) := by kernel_rfl
set_option maxRecDepth 100000 in
set_option maxHeartbeats 4000000 in
theorem splice_in (F : Fence) (N : Nat) (h14 : F.fn 14) (h29 : F.fn 29) (h35 : F.fn 35) (hro : F.round = none) (hN : 3 ≤ N) (A : Option Addr) (n c : Nat) (l : List St) (m : Nat) (s : St) (w : World) (h : Ss w A n c l) (hn : n ≤ 1000) (hm : 1 ≤ m) (hm2 : m ≤ 9223372036854775807) :
    CallsIn F N Try.prog 14 #[.slice A n c, .int .i64 m, .agg #[.int .i64 s.d, .int .i64 s.who, .int .i64 s.of]] w fun e w' => ∃ A' c', e = .returned (.slice A' (spl m s l).length c') ∧ Ow w' w.heap.size 31 3 A' (spl m s l).length c' (svs (spl m s l)) ∧ Below w.heap.size w w' := by
  have h1 : 1 ≤ N := by omega
  have hcap := h.cap
  have hlen := h.len
  have t : decide ((m : Int) < 1) = false := decide_eq_false (by omega)
  obtain ⟨ad, hA⟩ : ∃ ad, 0 < n → A = some ad := by
    rcases h.lies with e | ⟨ad, e, _⟩
    · exact ⟨⟨0, 0, Option.none⟩, fun q => by rw [e] at hlen; simp at hlen; omega⟩
    · exact ⟨ad, fun _ => e⟩
  obtain ⟨i0, hi, hz0, hz1, hz2⟩ := info_parts info31
  refine callsIn_of_wp_marks Try.func14 rfl h14 ?_ hro
  simp only [Try.ntmps14, List.size_toArray, List.length_cons, List.length_nil, Nat.reduceAdd, Nat.reduceSub, Array.replicate_succ, Array.replicate_zero, List.push_toArray, List.append_toArray, List.nil_append, List.cons_append]
  gi_wp2_with (gi_at_call 29; refine (chunk_in F (N - 1) h29 hro A n c m hm _).mono ?_; rintro e w' ⟨rfl, rfl⟩)
  have bM := Boxed.new w 3 (.int .i64 m)
  obtain ⟨W1, hW1⟩ : ∃ W1, w.alloc (.cells #[.int .i64 m] 3) = W1 := ⟨_, rfl⟩
  have z1 : W1.heap.size = w.heap.size + 1 := by rw [← hW1]; simp
  have bS := BoxS.new W1 s
  obtain ⟨W2, hW2⟩ : ∃ W2, W1.alloc (.cells #[.int .i64 s.d, .int .i64 s.who, .int .i64 s.of] 31) = W2 := ⟨_, rfl⟩
  have z2 : W2.heap.size = w.heap.size + 2 := by rw [← hW2]; simp [z1]
  have bO := Boxed.new W2 22 (.slice none 0 0)
  obtain ⟨W3, hW3⟩ : ∃ W3, W2.alloc (.cells #[.slice none 0 0] 22) = W3 := ⟨_, rfl⟩
  have z3 : W3.heap.size = w.heap.size + 3 := by rw [← hW3]; simp [z2]
  have b1 := Boxed.new W3 22 (.slice A n c)
  obtain ⟨W4, hW4⟩ : ∃ W4, W3.alloc (.cells #[.slice A n c] 22) = W4 := ⟨_, rfl⟩
  have z4 : W4.heap.size = w.heap.size + 4 := by rw [← hW4]; simp [z3]
  have b2 := Boxed.new W4 3 (.int .i64 m)
  obtain ⟨W5, hW5⟩ : ∃ W5, W4.alloc (.cells #[.int .i64 m] 3) = W5 := ⟨_, rfl⟩
  have z5 : W5.heap.size = w.heap.size + 5 := by rw [← hW5]; simp [z4]
  have k1 : ∀ b, b < W1.heap.size → W2.heap[b]? = W1.heap[b]? := fun b hb => by rw [← hW2]; exact Below.heap_alloc _ _ b hb
  have k2 : ∀ b, b < W2.heap.size → W3.heap[b]? = W2.heap[b]? := fun b hb => by rw [← hW3]; exact Below.heap_alloc _ _ b hb
  have k3 : ∀ b, b < W3.heap.size → W4.heap[b]? = W3.heap[b]? := fun b hb => by rw [← hW4]; exact Below.heap_alloc _ _ b hb
  have k4 : ∀ b, b < W4.heap.size → W5.heap[b]? = W4.heap[b]? := fun b hb => by rw [← hW5]; exact Below.heap_alloc _ _ b hb
  have hB0 : Below w.heap.size w W5 := by
    rw [← hW5, ← hW4, ← hW3, ← hW2, ← hW1]
    exact (((((Below.refl _ w).alloc (Nat.le_refl _) _).alloc (by simp) _).alloc (by simp; omega) _).alloc (by simp; omega) _).alloc (by simp; omega) _
  rw [hW1] at bM
  rw [hW2, z1] at bS
  rw [hW3, z2] at bO
  rw [hW4, z3] at b1
  rw [hW5, z4] at b2
  have hX : Bxs W5 w.heap.size A n c m s := ⟨(k4 _ (by omega)).trans ((k3 _ (by omega)).trans ((k2 _ (by omega)).trans ((k1 _ (by omega)).trans bM))), (k4 _ (by omega)).trans ((k3 _ (by omega)).trans ((k2 _ (by omega)).trans bS)), (k4 _ (by omega)).trans b1, b2⟩
  have bO5 : Boxed W5 (w.heap.size + 2) 22 (.slice none 0 0) := (k4 _ (by omega)).trans ((k3 _ (by omega)).trans bO)
  clear k1 k2 k3 k4 bM bS bO b1 b2
  rw [show w.heap.size + 1 + 1 + 1 + 1 = w.heap.size + 4 from rfl, show w.heap.size + 1 + 1 + 1 = w.heap.size + 3 from rfl, show w.heap.size + 1 + 1 = w.heap.size + 2 from rfl, hW1, hW2, hW3, hW4, hW5]
  clear hW1 hW2 hW3 hW4 hW5 z1 z2 z3 z4
  refine wpIn_rangeFunc_ownG hro h1 (gf := 35) (lb := #[.pointer (some ⟨w.heap.size + 3, 0, none⟩), .pointer (some ⟨w.heap.size + 4, 0, none⟩)]) rfl h35 (enters_of Try.func35 (by kernel_rfl) rfl)
    (chunk_stops F (N - 1) h35 hro (by omega) (w.heap.size + 3) (w.heap.size + 4) w.heap.size A ad n c m hA hn hcap hm hm2 W5 hX.b1 hX.b2) kpC_t (kpC_b (by omega) (by omega) (by omega)) (Below.refl _ _) (fun _ => rfl)
    (fun pre W => (∃ v, Boxed W (w.heap.size + 2) 22 v ∧ W.ownsRow (w.heap.size + 5) 31 3 v (spF l m s (pre.map Subtype.val)).length (svs (spF l m s (pre.map Subtype.val))) ∧ True) ∧ Bxs W w.heap.size A n c m s ∧ Below w.heap.size w W)
    (fun _ _ _ => False)
    (OwnFrom.and (Own.from (holdsRow_own (w.heap.size + 5) (w.heap.size + 2) 22 31 3 (fun (pre : List (PK n m)) => (spF l m s (pre.map Subtype.val)).length) (fun (pre : List (PK n m)) => svs (spF l m s (pre.map Subtype.val))) (fun _ _ => True)) _) (OwnFrom.and (Own.from (bxs_own w.heap.size A n c m s) _) (ownFrom_below (Nat.le_refl _) (by omega))))
    (fun _ _ _ _ _ hs _ _ => hs)
    ⟨⟨_, bO5, World.ownsRow_nil _ _ _ _, trivial⟩, hX, hB0⟩
    (fun x => { tmps := #[.slice A n c, .int .i64 m, .agg #[.int .i64 s.d, .int .i64 s.who, .int .i64 s.of], undef, .pointer (some ⟨w.heap.size, 0, none⟩), .pointer (some ⟨w.heap.size + 1, 0, none⟩), .slice none 0 0, .pointer (some ⟨w.heap.size + 2, 0, none⟩), .slice (some (ad.add (x.1 * m * 3))) (pe n m x.1) (pe n m x.1), .int .i64 m, .bool false, undef, undef, .slice A n c, .int .i64 m, .func (.func 35) #[] #[.pointer (some ⟨w.heap.size + 3, 0, none⟩), .pointer (some ⟨w.heap.size + 4, 0, none⟩)], .slice (some (ad.add (x.1 * m * 3))) (pe n m x.1) (pe n m x.1), undef, undef, undef, undef, undef, undef, undef, undef, undef, undef, undef, undef], defers := [] }) ?assign ?body ?done ?stop
  case assign =>
    intro l x W K hK
    unfold encP
    gi_wp2
    exact hK
  case body =>
    rintro lp pre x W ⟨⟨v, hv, hrow, _⟩, hx, hB⟩ hlt
    have hxl := x.2
    obtain rfl := hA (by omega)
    have hpl := part_lies (h.below hB) m x.1
    have hpn := part_len l m x.1
    have hfl := spF_len l m s (pre.map Subtype.val)
    rw [List.length_map, hlen] at hfl
    rw [hlen] at hpn
    have hmul : pre.length * (n + 1) ≤ 1000 * 1001 := Nat.mul_le_mul (by omega) (by omega)
    have hc := hv.cell
    have hcm := hx.bm.cell
    have hlt5 := hx.b2.lt
    have hsn : spF l m s ((pre ++ [x]).map Subtype.val) = spF l m s (pre.map Subtype.val) ++ spP l m s x.1 := by rw [List.map_append, List.map_singleton, spF_snoc]
    have hsn : spF l m s (pre ++ [x]).unattach = spF l m s (pre.map Subtype.val) ++ spP l m s x.1 := hsn
    obtain ⟨O, hO⟩ : ∃ O, spF l m s (pre.map Subtype.val) = O := ⟨_, rfl⟩
    rw [hO] at hrow hfl hsn
    obtain ⟨L, hL⟩ : ∃ L, O.length = L := ⟨_, rfl⟩
    rw [hL] at hrow hfl
    obtain ⟨e, he⟩ : ∃ e, pe n m x.1 = e + 1 := ⟨pe n m x.1 - 1, by unfold pe; omega⟩
    have hpe : (part l m x.1).length = e + 1 := by rw [hpn, ← he]; rfl
    have he2 : e + 1 ≤ n := by rw [← he]; unfold pe; omega
    obtain ⟨pt, hpt⟩ : ∃ pt, part l m x.1 = pt := ⟨_, rfl⟩
    have hsp : spP l m s x.1 = pt ++ (if pt.length = m then [s] else []) := by unfold spP; rw [hpt]
    rw [hpt] at hpl hpe
    obtain ⟨pa, hpa⟩ : ∃ pa, ad.add (x.1 * m * 3) = pa := ⟨_, rfl⟩
    rw [hpa] at hpl
    simp only [he, hpa]
    by_cases hful : e + 1 = m
    · have t2 : (((e + 1 : Nat) : Int) == (m : Int)) = true := by rw [beq_iff_eq]; omega
      have t4 : ((e : Int) + 1 == (m : Int)) = true := by rw [beq_iff_eq]; omega
      rw [if_pos (by rw [hpe]; exact hful)] at hsp
      clear hful
      gi_wp2_with (first
        | (gi_at_builtin; refine wpListIn_append_own (o := ⟨some 19, _, _, _, _, _⟩) _ rfl _ _ 22 rfl (w.heap.size + 5) 31 i0 (.agg #[.int .i64 0, .int .i64 0, .int .i64 0]) 3 24 Try.underlying22 hi hz0 hz1 hz2 rfl (by decide) _ _ _ rfl hrow pa (e + 1) (e + 1) (svs pt) rfl (by rw [svs_len, hpe, Nat.mul_comm]) hpl (svs_one _) (by unfold maxLen; omega) (by omega) (by omega) ?_; intro v' w1 hown' hgrow _; obtain ⟨g', cap', rfl⟩ := ownsRow_succ (k := L + e) hown'; obtain ⟨hv1, hv2, hr2, hk2, hbl2, hrest⟩ := put_all (n₀ := w.heap.size) hv hrow (by omega) (by omega) hB.size hown' hgrow; have hc1 := hv1.cell; have hf1 := hv1.frozen; have hx2 := hx.keep (fun b hb hne => hrest b hb hne (by omega)); have hcm2 := hx2.bm.cell; obtain ⟨s0, s1, s2⟩ := hx2.bs.cells; have hc2 := hv2.cell; have hlt6 := hx2.b2.lt; have hB2 := hB.trans hbl2)
        | (gi_at_builtin; refine wpListIn_append_own (o := ⟨some 27, _, _, _, _, _⟩) _ rfl _ _ 22 rfl (w.heap.size + 5) 31 i0 (.agg #[.int .i64 0, .int .i64 0, .int .i64 0]) 3 24 Try.underlying22 hi hz0 hz1 hz2 rfl (by decide) _ _ _ rfl (hr2.alloc _) ⟨_, 0, none⟩ 1 1 (svs [s]) rfl rfl (sv_cells _ s _ (by simp)) (svs_one _) (by unfold maxLen; omega) (by omega) (Nat.le_trans (Nat.succ_le_of_lt hlt6) (by rw [World.size_alloc]; exact Nat.le_succ _)) ?_; intro v'' w2 hown3 hgrow3 _; obtain ⟨g3, cap3, rfl⟩ := ownsRow_succ (k := L + (e + 1)) hown3; obtain ⟨hv3, hv4, hr4, hk4, hbl4, hrest4⟩ := put_all (n₀ := w.heap.size) (hv2.alloc _) (hr2.alloc _) (by omega) (by omega) (Nat.le_trans hB2.size (by rw [World.size_alloc]; exact Nat.le_succ _)) hown3 hgrow3; have hc3 := hv3.cell; have hf3 := hv3.frozen; have hx4 := hx2.keep (fun b hb hne => (hrest4 b hb hne (by rw [World.size_alloc]; omega)).trans (Below.heap_alloc _ _ b (by omega)))))
      have hba := (Below.refl w.heap.size (w1.setCell ⟨w.heap.size + 2, 0, none⟩ (.slice (some ⟨g', 0, none⟩) (L + e + 1) cap'))).alloc hB2.size (.cells #[.int .i64 s.d, .int .i64 s.who, .int .i64 s.of] 31)
      exact ⟨(hk2.trans ((KeepsOthers.alloc _ _).trans hk4)).from _, ⟨hbl2.trans (hba.trans hbl4), fun _ => hx4.b1, fun _ => hx4.b2⟩, ⟨_, hv4, by rw [hsn, hsp, List.length_append, List.length_append, hL, hpe, svs_append, svs_append, ← List.append_assoc]; exact hr4⟩, hx4, hB2.trans (hba.trans hbl4)⟩
    · have t2 : (((e + 1 : Nat) : Int) == (m : Int)) = false := by rw [beq_eq_false_iff_ne]; omega
      have t3 : ¬ (e : Int) + 1 = (m : Int) := by omega
      have t4 : ((e : Int) + 1 == (m : Int)) = false := by rw [beq_eq_false_iff_ne]; exact t3
      rw [if_neg (by rw [hpe]; exact hful), List.append_nil] at hsp
      gi_wp2_with (gi_at_builtin; refine wpListIn_append_own (o := ⟨some 19, _, _, _, _, _⟩) _ rfl _ _ 22 rfl (w.heap.size + 5) 31 i0 (.agg #[.int .i64 0, .int .i64 0, .int .i64 0]) 3 24 Try.underlying22 hi hz0 hz1 hz2 rfl (by decide) _ _ _ rfl hrow pa (e + 1) (e + 1) (svs pt) rfl (by rw [svs_len, hpe, Nat.mul_comm]) hpl (svs_one _) (by unfold maxLen; omega) (by omega) (by omega) ?_; intro v' w1 hown' hgrow _; obtain ⟨g', cap', rfl⟩ := ownsRow_succ (k := L + e) hown'; obtain ⟨hv1, hv2, hr2, hk2, hbl2, hrest⟩ := put_all (n₀ := w.heap.size) hv hrow (by omega) (by omega) hB.size hown' hgrow; have hc1 := hv1.cell; have hf1 := hv1.frozen; have hx2 := hx.keep (fun b hb hne => hrest b hb hne (by omega)); have hcm2 := hx2.bm.cell; obtain ⟨s0, s1, s2⟩ := hx2.bs.cells; have hc2 := hv2.cell; have hlt6 := hx2.b2.lt; have hB2 := hB.trans hbl2)
      exact ⟨hk2.from _, ⟨hbl2, fun _ => hx2.b1, fun _ => hx2.b2⟩, ⟨_, hv2, by rw [hsn, hsp, List.length_append, hL, hpe, svs_append]; exact hr2⟩, hx2, hB2⟩
  case done =>
    rintro D ys W hD ⟨k, hk, hmap⟩ ⟨⟨v, hv, hrow, _⟩, hx, hB⟩ hK
    have hc := hv.cell
    rw [hmap, spF_all l m s hm k (by rw [hlen]; exact hk)] at hrow
    obtain ⟨A', c', rfl⟩ : ∃ A' c', v = .slice A' (spl m s l).length c' := by
      rcases hrow.2 with ⟨e1, e2⟩ | ⟨g, cap, _, e1, _⟩
      · exact ⟨none, 0, by rw [e1, e2]⟩
      · exact ⟨_, _, e1⟩
    gi_wp2
    refine ⟨by simp, .inl ⟨_, _, rfl, run_takeDeferred hK, ?_⟩⟩
    exact ⟨_, results_tmp rfl _ _ _, A', c', rfl, Ow.mono (ownsRow_putObj hrow _ hK rfl) (by omega), hB.trans (belowK_b (w := w) (Nat.le_refl _) W D _ _ (by omega) hK rfl rfl)⟩
  case stop =>
    rintro D c pre W _ _ h _
    exact h.elim
theorem splice_ok (A : Option Addr) (n c : Nat) (l : List St) (q : Int) (s : St) (w : World) (h : Ss w A n c l) (hn : n ≤ 1000) (hq : Wf q) :
    Calls Try.prog 14 #[.slice A n c, .int .i64 q, .agg #[.int .i64 s.d, .int .i64 s.who, .int .i64 s.of]] w fun e w' => ∃ A' c', e = .returned (.slice A' (spl q.toNat s l).length c') ∧ Ow w' w.heap.size 31 3 A' (spl q.toNat s l).length c' (svs (spl q.toNat s l)) ∧ Below w.heap.size w w' := by
  by_cases hlt : q < 1
  · have t : decide (q < 1) = true := decide_eq_true hlt
    have HE : Hid (spl q.toNat s l = l) := Lib.hid (by rw [show q.toNat = 0 by omega, spl_zero])
    have HL := Lib.hid h.len
    have hB1 : Below w.heap.size w ((w.alloc (.cells #[.int .i64 q] 3)).alloc (.cells #[.int .i64 s.d, .int .i64 s.who, .int .i64 s.of] 31)) := nxa ((Below.refl _ w).alloc (Nat.le_refl _) _) _
    have h2 := h.below hB1
    rw [HE.out, HL.out]
    go_enter Try.func14, Try.ntmps14
    go_wp2_with fail
    refine (clone_ok A n c l _ h2 hn).mono ?_
    rintro e w' ⟨A', c', rfl, hO, hB⟩
    go_wp2_with fail
    go_ret
    exact ⟨A', c', rfl, hO.mono hB1.size, nx hB1 hB⟩
  · obtain ⟨m, rfl⟩ : ∃ m : Nat, q = m := ⟨q.toNat, by omega⟩
    rw [Int.toNat_natCast]
    have := hq.2
    exact (callsIn_wide (n := 3)).1 (splice_in Fence.wide 3 trivial trivial trivial rfl (Nat.le_refl _) A n c l m s w h hn (by omega) (by omega))
end Go.Proofs.Ytejoiamdhjhjhaa
