/- The walk of pad.Unpad: what it returns, said by the last byte that is not zero. -/
import Derived.Test.YtejhphjilmpfkaaBack
namespace Go.Proofs.Ytejhphjilmpfkaa
open Go.RowKit Go.Shelf
attribute [local go_sem] Oper.semAt_some

def Good (l : List UInt8) (i : Nat) : Prop := l[i]? = some 128 ∧ i < 65536 ∧ bk i = l.length
def Zs (l : List UInt8) (pre : List (Ix8 l)) : Prop := ∀ x ∈ pre, l[x.1]'x.2 = 0
theorem bx_own {W W' : World} {B : Nat} {t : TypeId} {v : Value} {row : Option Nat} (h : Boxed W B t v) (hg : W.grownBy W' row) (hr : ∀ r, row = some r → ∃ o : Obj, W.heap[r]? = some o ∧ o.isCells = false) : Boxed W' B t v :=
  boxed_own (β := Unit) B t (fun _ => v) () W W' row h hg hr
theorem sl_own {W W' : World} {A : Option Addr} {n c : Nat} {xs : List Value} {row : Option Nat} (h : Sl W A n c xs) (hg : W.grownBy W' row) (hr : ∀ r, row = some r → ∃ o : Obj, W.heap[r]? = some o ∧ o.isCells = false) : Sl W' A n c xs := by
  refine ⟨h.len, h.cap, h.top, ?_⟩
  rcases h.lies with e | ⟨ad, e, hc⟩
  · exact .inl e
  · exact .inr ⟨ad, e, fun j u hu => cell_kept (hc j u hu) hg hr⟩
theorem keeps_below {W W' : World} (h : Below W.heap.size W W') : KeepsOthers W W' :=
  ⟨h.size, fun k _ hk _ => (h.block k (Array.getElem?_eq_some_iff.1 hk).1).trans hk⟩
/-- what a round that left has left -/
def Left (l : List UInt8) (w : World) (code : Code) (pre : List (Ix8 l)) (W : World) : Prop :=
  ∃ ini x, pre = ini ++ [x] ∧ Zs l ini ∧ l[x.1]'x.2 ≠ 0 ∧
    ((code = .ret ∧ Good l x.1 ∧ ∃ A' c', Boxed W (w.heap.size + 1) 22 (.slice A' x.1 c') ∧ Boxed W (w.heap.size + 1 + 1) 25 (.int .i64 0) ∧ Sl W A' x.1 c' (bv (l.take x.1))) ∨
     (code = .exit 0 ∧ ¬ Good l x.1 ∧ Boxed W (w.heap.size + 1) 22 (.slice none 0 0) ∧ Boxed W (w.heap.size + 1 + 1) 25 (.int .i64 0)))
theorem Left.own (l : List UInt8) (w : World) (code : Code) : Own (Left l w code) := fun _ _ _ _ hs hg hr => by
  obtain ⟨ini, x, e, hz, hx, h | h⟩ := hs
  · obtain ⟨h1, h2, A', c', h3, h4, h5⟩ := h
    exact ⟨ini, x, e, hz, hx, .inl ⟨h1, h2, A', c', bx_own h3 hg hr, bx_own h4 hg hr, sl_own h5 hg hr⟩⟩
  · obtain ⟨h1, h2, h3, h4⟩ := h
    exact ⟨ini, x, e, hz, hx, .inr ⟨h1, h2, bx_own h3 hg hr, bx_own h4 hg hr⟩⟩
theorem bucket_nat (n : Nat) (w : World) (h : n < 65536) : Calls Try.prog 13 #[.int .i64 (n : Int)] w fun e w' => e = .returned (.tuple #[.int .i64 (bk n : Nat), .int .i64 0]) ∧ w = w' := by
  have := bucket_mid n w (by omega) (by omega)
  rwa [Int.toNat_natCast] at this
/-- between two rounds -/
def Mid (l : List UInt8) (w : World) (A : Option Addr) (n c : Nat) (pre : List (Ix8 l)) (W : World) : Prop :=
  Zs l pre ∧ Boxed W w.heap.size 22 (.slice A n c) ∧ Boxed W (w.heap.size + 1) 22 (.slice none 0 0) ∧ Boxed W (w.heap.size + 1 + 1) 25 (.int .i64 0)
theorem Mid.own (l : List UInt8) (w : World) (A : Option Addr) (n c : Nat) : Own (Mid l w A n c) := fun _ _ _ _ hs hg hr =>
  ⟨hs.1, bx_own hs.2.1 hg hr, bx_own hs.2.2.1 hg hr, bx_own hs.2.2.2 hg hr⟩
def UnpadPost (l : List UInt8) (w : World) (e : Ending) (w' : World) : Prop :=
  Below w.heap.size w w' ∧
  ((∃ i, ∃ hi : i < l.length, (∀ j (hj : j < l.length), i < j → l[j] = 0) ∧ l[i] ≠ 0 ∧
     ((Good l i ∧ ∃ A' c', e = .returned (.tuple #[.slice A' i c', .int .i64 0]) ∧ Sl w' A' i c' (bv (l.take i))) ∨ (¬ Good l i ∧ e = .returned (.tuple #[.slice none 0 0, .int .i64 11])))) ∨
   ((∀ j (hj : j < l.length), l[j] = 0) ∧ e = .returned (.tuple #[.slice none 0 0, .int .i64 11])))

set_option maxRecDepth 100000 in
set_option maxHeartbeats 2000000 in
theorem unpad_rel (A : Option Addr) (n c : Nat) (l : List UInt8) (w : World) (hs : Sl w A n c (bv l)) :
    Calls Try.prog 11 #[.slice A n c] w (UnpadPost l w) := by
  have Hlen := Lib.hid (show l.length = n by have := hs.len; rwa [bv_length] at this)
  have htop := hs.top; have hcap := hs.cap; unfold maxLen at htop
  refine (callsIn_wide (n := 3)).1 ?_
  refine callsIn_of_wp_marks Try.func11 rfl trivial ?_ rfl
  simp only [Try.ntmps11, List.size_toArray, List.length_cons, List.length_nil, Nat.reduceAdd, Nat.reduceSub, Array.replicate_succ, Array.replicate_zero, List.push_toArray, List.append_toArray, List.nil_append, List.cons_append]
  gi_wp2_with (refine ⟨trivial, ?_⟩; gi_at_call 17; refine (back_in Fence.wide _ trivial rfl _ _ _ _).mono ?_; rintro e w' ⟨rfl, rfl⟩)
  obtain ⟨W0, hW0⟩ : ∃ W0, (((w.alloc (.cells #[.slice A n c] 22)).alloc (.cells #[.slice none 0 0] 22)).alloc (.cells #[.int .i64 0] 25)).alloc (.cells #[.slice A n c] 22) = W0 := ⟨_, rfl⟩
  have hz0 : W0.heap.size = w.heap.size + 4 := by rw [← hW0]; simp
  have b1 : Boxed W0 w.heap.size 22 (.slice A n c) := by rw [← hW0]; exact (((Boxed.new w _ _).alloc _).alloc _).alloc _
  have b2 : Boxed W0 (w.heap.size + 1) 22 (.slice none 0 0) := by
    have := Boxed.new (w.alloc (.cells #[.slice A n c] 22)) 22 (.slice none 0 0)
    rw [World.size_alloc] at this; rw [← hW0]; exact (this.alloc _).alloc _
  have b3 : Boxed W0 (w.heap.size + 1 + 1) 25 (.int .i64 0) := by
    have := Boxed.new ((w.alloc (.cells #[.slice A n c] 22)).alloc (.cells #[.slice none 0 0] 22)) 25 (.int .i64 0)
    rw [World.size_alloc, World.size_alloc] at this; rw [← hW0]; exact this.alloc _
  have b4 : Boxed W0 (w.heap.size + 1 + 1 + 1) 22 (.slice A n c) := by
    have := Boxed.new (((w.alloc (.cells #[.slice A n c] 22)).alloc (.cells #[.slice none 0 0] 22)).alloc (.cells #[.int .i64 0] 25)) 22 (.slice A n c)
    rw [World.size_alloc, World.size_alloc, World.size_alloc] at this; rw [← hW0]; exact this
  have hB0 : Below w.heap.size w W0 := by
    rw [← hW0]; exact ((((Below.refl _ w).alloc (Nat.le_refl _) _).alloc (by simp) _).alloc (by simp; omega) _).alloc (by simp; omega) _
  rw [hW0]
  refine wpIn_rangeFunc_ownF rfl (by omega) (gf := 21) (lb := #[.pointer (some ⟨w.heap.size + 1 + 1 + 1, 0, none⟩)]) rfl trivial (enters_of Try.func21 (by kernel_rfl) rfl)
    (back_stops Fence.wide 2 trivial rfl (by omega) (w.heap.size + 1 + 1 + 1) A n c l W0 (hs.below hB0) b4.cell) belowK_t (belowK_b (Nat.le_refl _)) (Below.refl _ _) (fun _ => rfl)
    (fun pre W => Mid l w A n c pre W ∧ Below w.heap.size w W)
    (fun code pre W => Left l w code pre W ∧ Below w.heap.size w W)
    (OwnFrom.and ((Mid.own l w A n c).from _) (ownFrom_below (Nat.le_refl _) (by omega)))
    (fun code => OwnFrom.and ((Left.own l w code).from _) (ownFrom_below (Nat.le_refl _) (by omega)))
    ⟨⟨by simp [Zs], b1, b2, b3⟩, hB0⟩
    (fun x => { tmps := #[.slice A n c, .pointer (some ⟨w.heap.size, 0, none⟩), .pointer (some ⟨w.heap.size + 1, 0, none⟩), .pointer (some ⟨w.heap.size + 1 + 1, 0, none⟩), .int .i64 (x.1 : Int), .int .u8 ((l[x.1]'x.2).toNat : Int), undef, undef, .slice A n c, .func (.func 21) #[] #[.pointer (some ⟨w.heap.size + 1 + 1 + 1, 0, none⟩)], .int .i64 (x.1 : Int), .int .u8 ((l[x.1]'x.2).toNat : Int), undef, undef, undef, undef, undef, undef, undef, undef, undef, undef, undef, undef, undef, undef, undef, undef, undef, undef, undef, undef, undef, undef, undef], defers := [] }) ?assign ?body ?done ?stop
  case assign =>
    intro lp x W K hK
    simp only [enc8]
    gi_wp2
    exact hK
  case body =>
    rintro lp pre x W ⟨⟨hz, c1, c2, c3⟩, hB⟩ _
    have hx1 : x.1 < n := by have := x.2; have := Hlen.out; omega
    obtain ⟨v, hv⟩ : ∃ v, l[x.1]'x.2 = v := ⟨_, rfl⟩
    obtain ⟨i, hi⟩ : ∃ i, x.1 = i := ⟨_, rfl⟩
    rw [hv, hi]
    rw [hi] at hx1
    have Hv := Lib.hid hv; have Hi := Lib.hid hi; clear hv hi
    have d1 := c1.cell; have d2 := c2.cell; have d3 := c3.cell
    have f2 := c2.frozen; have f3 := c3.frozen
    by_cases hv0 : v = 0
    · have hv1 : (((v.toNat : Int)) == 0) = true := by subst hv0; rfl
      gi_wp2
      refine ⟨KeepsOthers.refl _, Below.refl _ _, ⟨?_, c1, c2, c3⟩, hB⟩
      intro y hy
      rcases List.mem_append.1 hy with h | h
      · exact hz y h
      · obtain rfl : y = x := by simpa using h
        rw [Hv.out]; exact hv0
    · have hv1 : (((v.toNat : Int)) == 0) = false := by
        rw [beq_eq_false_iff_ne]; intro h; exact hv0 (UInt8.toNat_inj.1 (by rw [UInt8.toNat_zero]; omega))
      have hvx : l[x.1]'x.2 ≠ 0 := by rw [Hv.out]; exact hv0
      have HV := Lib.hid hvx; clear hvx hv0
      by_cases hi2 : i < 65536
      · obtain ⟨m, hm⟩ : ∃ m, bk i = m := ⟨_, rfl⟩
        have Hm := Lib.hid hm; clear hm
        by_cases hg : v = 128 ∧ m = n
        · obtain ⟨hg1, rfl⟩ := hg
          have t1 : (((v.toNat : Int)) != 128) = false := by rw [hg1]; rfl
          have hcl := Lib.hid (hs.below hB)
          gi_wp2_with (first
            | (refine ⟨trivial, ?_⟩; gi_at_call 13; refine (CallsIn.inRound lp (callsIn_wide.2 (bucket_nat i _ hi2))).mono ?_; rw [Hm.out]; rintro e w' ⟨rfl, rfl⟩)
            | (refine ⟨trivial, ?_⟩; gi_at_call 18; refine (CallsIn.inRound lp (callsIn_wide.2 (clone A i c ((bv l).take i) W (hcl.out.pre (by omega)) (fun u hu => bv_one l u (List.mem_of_mem_take hu)) (by omega)))).mono ?_
               rintro e W1 ⟨A', c', rfl, hO1, hB1⟩
               have k2 : Boxed W1 (w.heap.size + 1) 22 (.slice none 0 0) := (hB1.block _ c2.lt).trans c2
               have k3 : Boxed W1 (w.heap.size + 1 + 1) 25 (.int .i64 0) := (hB1.block _ c3.lt).trans c3
               have e2 := k2.cell; have e3 := k3.cell; have e4 := k2.frozen; have e5 := k3.frozen))
          have hS2 : Sl ((W1.setCell ⟨w.heap.size + 1, 0, none⟩ (.slice A' i c')).setCell ⟨w.heap.size + 1 + 1, 0, none⟩ (.int .i64 0)) A' i c' (bv (l.take i)) := by
            rw [bv_take]
            exact Ow.sl (ownsRow_setCell_below (ownsRow_setCell_below hO1 c2.lt _) c3.lt _)
          refine ⟨(keeps_below hB1).trans ((KeepsOthers.setCell _ _ _).trans (KeepsOthers.setCell _ _ _)), ⟨pre, x, rfl, hz, HV.out, .inl ⟨rfl, ?_, A', c', ?_, ?_, ?_⟩⟩, ?_⟩
          · rw [Hi.out]; exact ⟨by rw [← Hi.out, List.getElem?_eq_getElem x.2, Hv.out, hg1], hi2, by rw [Hm.out, Hlen.out]⟩
          · rw [Hi.out]; exact (Boxed.other (k2.set _) (by omega) _)
          · exact ((k3.other (by omega) _).set _)
          · rw [Hi.out]; exact hS2
          · exact (((hB.trans (hB1.mono hB.size)).setCell (p := ⟨w.heap.size + 1, 0, none⟩) (by simp) _).setCell (p := ⟨w.heap.size + 1 + 1, 0, none⟩) (by simp; omega) _)
        · have hbad : ¬ Good l x.1 := by
            rintro ⟨g1, _, g3⟩
            refine hg ⟨?_, ?_⟩
            · rw [List.getElem?_eq_getElem x.2, Hv.out] at g1; exact Option.some.inj g1
            · rw [Hi.out, Hm.out, Hlen.out] at g3; exact g3
          have HB := Lib.hid hbad; clear hbad
          by_cases hg1 : v = 128
          · have t1 : (((v.toNat : Int)) != 128) = false := by rw [hg1]; rfl
            have t2 : (m != n) = true := by rw [bne_iff_ne]; intro h; exact hg ⟨hg1, h⟩
            have t3 : ((m : Int) != (n : Int)) = true := by rw [bne_iff_ne]; intro h; exact hg ⟨hg1, by omega⟩
            clear hg
            gi_wp2_with (refine ⟨trivial, ?_⟩; gi_at_call 13; refine (CallsIn.inRound lp (callsIn_wide.2 (bucket_nat i _ hi2))).mono ?_; rw [Hm.out]; rintro e w' ⟨rfl, rfl⟩)
            exact ⟨KeepsOthers.refl _, ⟨pre, x, rfl, hz, HV.out, .inr ⟨rfl, HB.out, c2, c3⟩⟩, hB⟩
          · have t1 : (((v.toNat : Int)) != 128) = true := by
              rw [bne_iff_ne]; intro h; exact hg1 (UInt8.toNat_inj.1 (by show v.toNat = 128; omega))
            clear hg
            gi_wp2_with (refine ⟨trivial, ?_⟩; gi_at_call 13; refine (CallsIn.inRound lp (callsIn_wide.2 (bucket_nat i _ hi2))).mono ?_; rw [Hm.out]; rintro e w' ⟨rfl, rfl⟩)
            exact ⟨KeepsOthers.refl _, ⟨pre, x, rfl, hz, HV.out, .inr ⟨rfl, HB.out, c2, c3⟩⟩, hB⟩
      · have hbad : ¬ Good l x.1 := by
          rintro ⟨_, g2, _⟩
          rw [Hi.out] at g2; exact hi2 g2
        have HB := Lib.hid hbad; clear hbad
        gi_wp2_with (refine ⟨trivial, ?_⟩; gi_at_call 13; refine (CallsIn.inRound lp (callsIn_wide.2 (bucket_big i _ (by omega)))).mono ?_; rintro e w' ⟨rfl, rfl⟩)
        all_goals exact ⟨KeepsOthers.refl _, ⟨pre, x, rfl, hz, HV.out, .inr ⟨rfl, HB.out, c2, c3⟩⟩, hB⟩
  case done =>
    rintro D ys W hD hS ⟨⟨hz, c1, c2, c3⟩, hB⟩ hK
    have d2 := c2.cell; have d3 := c3.cell; have f2 := c2.frozen; have f3 := c3.frozen
    gi_wp2
    have hK2 := ((KeepsOthers.setCell W ⟨w.heap.size + 1, 0, none⟩ (.slice none 0 0)).trans (KeepsOthers.setCell _ ⟨w.heap.size + 1 + 1, 0, none⟩ (.int .i64 11))).same D _ hK rfl
    refine ⟨by simp, .inl ⟨_, _, rfl, run_takeDeferred hK2, ?_⟩⟩
    have g2 := bx_own (Boxed.other (c2.set (.slice none 0 0)) (by omega : w.heap.size + 1 ≠ w.heap.size + 1 + 1) (.int .i64 11)) (grownBy_putObj' _ D (.deferred none)) (fun r e => by cases e; exact ⟨_, hK2, rfl⟩)
    have g3 := bx_own ((c3.other (by omega : w.heap.size + 1 + 1 ≠ w.heap.size + 1) (.slice none 0 0)).set (.int .i64 11)) (grownBy_putObj' _ D (.deferred none)) (fun r e => by cases e; exact ⟨_, hK2, rfl⟩)
    have e2 := g2.cell; have e3 := g3.cell
    refine ⟨.tuple #[.slice none 0 0, .int .i64 11], by simp [results, Try.f11, go_sem, e2, e3], ?_, .inr ⟨?_, rfl⟩⟩
    · exact ((hB.setCell (p := ⟨w.heap.size + 1, 0, none⟩) (by simp) _).setCell (p := ⟨w.heap.size + 1 + 1, 0, none⟩) (by simp; omega) _).trans (belowK_b (w := w) (Nat.le_refl _) _ D _ _ (by omega) hK2 rfl rfl)
    · intro j hj
      have hm : j ∈ ys.map (·.1) := by rw [hS, downTo, List.mem_map]; exact ⟨n - 1 - j, by rw [List.mem_range]; have := Hlen.out; omega, by have := Hlen.out; omega⟩
      obtain ⟨y, hy, rfl⟩ := List.mem_map.1 hm
      exact hz y hy
  case stop =>
    rintro D code pre W hD ⟨k, hk, hS⟩ ⟨⟨ini, x, rfl, hz, hx, hL⟩, hB⟩ hK
    have hzero : ∀ j (hj : j < l.length), x.1 < j → l[j] = 0 := by
      intro j hj hlt
      have hkl : ini.length + 1 = k := by have := congrArg List.length hS; simpa [downTo] using this
      subst hkl
      rw [List.map_append, downTo_succ] at hS
      obtain ⟨h1, h2⟩ := List.append_inj' hS rfl
      have hx1 : x.1 = n - 1 - ini.length := by simpa using h2
      have hm : j ∈ ini.map (·.1) := by rw [h1, downTo, List.mem_map]; exact ⟨n - 1 - j, by rw [List.mem_range]; have := Hlen.out; omega, by have := Hlen.out; omega⟩
      obtain ⟨y, hy, rfl⟩ := List.mem_map.1 hm
      exact hz y hy
    rcases hL with ⟨rfl, hG, A', c', c2, c3, hS2⟩ | ⟨rfl, hG, c2, c3⟩
    · gi_wp2
      refine ⟨by simp, .inl ⟨_, _, rfl, run_takeDeferred hK, ?_⟩⟩
      have g2 := bx_own c2 (grownBy_putObj' _ D (.deferred none)) (fun r e => by cases e; exact ⟨_, hK, rfl⟩)
      have g3 := bx_own c3 (grownBy_putObj' _ D (.deferred none)) (fun r e => by cases e; exact ⟨_, hK, rfl⟩)
      have e2 := g2.cell; have e3 := g3.cell
      refine ⟨.tuple #[.slice A' x.1 c', .int .i64 0], by simp [results, Try.f11, go_sem, e2, e3], hB.trans (belowK_b (w := w) (Nat.le_refl _) _ D _ _ (by omega) hK rfl rfl), .inl ⟨x.1, x.2, hzero, hx, .inl ⟨hG, A', c', rfl, ?_⟩⟩⟩
      exact sl_own hS2 (grownBy_putObj' _ D (.deferred none)) (fun r e => by cases e; exact ⟨_, hK, rfl⟩)
    · have d2 := c2.cell; have d3 := c3.cell; have f2 := c2.frozen; have f3 := c3.frozen
      gi_wp2
      have hK2 := ((KeepsOthers.setCell W ⟨w.heap.size + 1, 0, none⟩ (.slice none 0 0)).trans (KeepsOthers.setCell _ ⟨w.heap.size + 1 + 1, 0, none⟩ (.int .i64 11))).same D _ hK rfl
      refine ⟨by simp, .inl ⟨_, _, rfl, run_takeDeferred hK2, ?_⟩⟩
      have g2 := bx_own (Boxed.other (c2.set (.slice none 0 0)) (by omega : w.heap.size + 1 ≠ w.heap.size + 1 + 1) (.int .i64 11)) (grownBy_putObj' _ D (.deferred none)) (fun r e => by cases e; exact ⟨_, hK2, rfl⟩)
      have g3 := bx_own ((c3.other (by omega : w.heap.size + 1 + 1 ≠ w.heap.size + 1) (.slice none 0 0)).set (.int .i64 11)) (grownBy_putObj' _ D (.deferred none)) (fun r e => by cases e; exact ⟨_, hK2, rfl⟩)
      have e2 := g2.cell; have e3 := g3.cell
      refine ⟨.tuple #[.slice none 0 0, .int .i64 11], by simp [results, Try.f11, go_sem, e2, e3], ?_, .inl ⟨x.1, x.2, hzero, hx, .inr ⟨hG, rfl⟩⟩⟩
      exact ((hB.setCell (p := ⟨w.heap.size + 1, 0, none⟩) (by simp) _).setCell (p := ⟨w.heap.size + 1 + 1, 0, none⟩) (by simp; omega) _).trans (belowK_b (w := w) (Nat.le_refl _) _ D _ _ (by omega) hK2 rfl rfl)
end Go.Proofs.Ytejhphjilmpfkaa
