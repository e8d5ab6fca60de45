/- The walk of wire.Split. -/
import Derived.Shelf.Spec.SlicesInsert
import Derived.Test.YtjebmmmjjiomfaaVecs
namespace Go.Proofs.Ytjebmmmjjiomfaa
open Go.RowKit

theorem E35 : Elem Try.prog 35 23 (.slice none 0 0) 1 24 := ⟨Try.underlying35, by kernel_rfl, rfl, by omega⟩

/-- cells that are slices of bytes, each a row of the call's own -/
def BO (w : World) (base : Nat) (xs : List Value) (bss : List (List UInt8)) : Prop :=
  bss.length = xs.length ∧ ∀ (k : Nat) (u : Value), xs[k]? = some u → ∃ (a : Option Addr) (m c : Nat) (l : List UInt8), u = Value.slice a m c ∧ bss[k]? = some l ∧ l.length = m ∧ Ow w base 5 1 a m c (bv l)
variable {w w' : World} {base : Nat} {xs : List Value} {bss : List (List UInt8)}
theorem BO.bl (h : BO w base xs bss) : BL w xs bss := ⟨h.1.symm, fun k u hk => by
  obtain ⟨a, m, c, l, h1, h2, h3, h4⟩ := h.2 k u hk
  exact ⟨a, m, c, l, h1, h2, h4.sl⟩⟩
theorem BO.keep (h : BO w base xs bss) (hb : Below w.heap.size w w') : BO w' base xs bss := ⟨h.1, fun k u hk => by
  obtain ⟨a, m, c, l, h1, h2, h3, h4⟩ := h.2 k u hk
  exact ⟨a, m, c, l, h1, h2, h3, h4.below hb⟩⟩
theorem BO.mono (h : BO w base xs bss) {b' : Nat} (hb : b' ≤ base) : BO w b' xs bss := ⟨h.1, fun k u hk => by
  obtain ⟨a, m, c, l, h1, h2, h3, h4⟩ := h.2 k u hk
  exact ⟨a, m, c, l, h1, h2, h3, h4.mono hb⟩⟩
theorem BO.nil (w : World) (base : Nat) : BO w base [] [] := ⟨rfl, fun k u hk => by simp at hk⟩
theorem BO.snoc (h : BO w base xs bss) {a : Option Addr} {m c : Nat} {l : List UInt8} (hl : l.length = m) (ho : Ow w base 5 1 a m c (bv l)) : BO w base (xs ++ [.slice a m c]) (bss ++ [l]) := by
  refine ⟨by simp [h.1], fun k u hk => ?_⟩
  by_cases hkx : k < xs.length
  · rw [List.getElem?_append_left hkx] at hk
    rw [List.getElem?_append_left (by rw [h.1]; exact hkx)]
    exact h.2 k u hk
  · rw [List.getElem?_append_right (by omega)] at hk
    rw [List.getElem?_append_right (by rw [h.1]; omega), h.1]
    obtain ⟨j, hj⟩ : ∃ j, k - xs.length = j := ⟨_, rfl⟩
    rw [hj] at hk ⊢
    cases j with
    | zero => simp at hk; subst hk; exact ⟨a, m, c, l, rfl, rfl, hl, ho⟩
    | succ j => simp at hk
/-- another row is written, or a new one made: a row of bytes stays -/
theorem Ow.other {w w' : World} {base b2 : Nat} {e e2 : TypeId} {A B : Option Addr} {n c m d : Nat} {xs ys : List Value} (h : Ow w base e 1 A n c xs) (k : Ow w b2 e2 1 B m d ys) (hne : e ≠ e2) (hg : w.grownBy w' (Value.slice B m d).ownBlock) : Ow w' base e 1 A n c xs := by
  refine World.ownsRow.kept h hg ?_
  rcases h.2 with ⟨hv, _⟩ | ⟨g, cap, cur, hv, _, hh, _⟩
  · injection hv with e1; subst e1; exact .inl rfl
  · injection hv with e1; subst e1
    right
    rcases k.2 with ⟨kv, _⟩ | ⟨g2, cap2, cur2, kv, _, kh, _⟩
    · injection kv with e1; subst e1; intro q; cases q
    · injection kv with e1; subst e1
      intro q
      have q2 : g = g2 := Option.some.inj q
      subst q2
      rw [hh] at kh
      injection kh with kh
      injection kh with _ kh _
      exact hne kh
theorem BO.other (h : BO w base xs bss) {b2 : Nat} {e2 : TypeId} {B : Option Addr} {m d : Nat} {ys : List Value} (k : Ow w b2 e2 1 B m d ys) (hne : 5 ≠ e2) (hg : w.grownBy w' (Value.slice B m d).ownBlock) : BO w' base xs bss := ⟨h.1, fun j u hj => by
  obtain ⟨a, m, c, l, h1, h2, h3, h4⟩ := h.2 j u hj
  exact ⟨a, m, c, l, h1, h2, h3, h4.other k hne hg⟩⟩

theorem step_app {P : Program} {w : World} {ops : Array Oper} {o : Oper} {a : Act} {K : Act → World → Prop} {Q : Exit → Act → World → Prop} {X : Prop} {s x : Operand} {t : TypeId}
    {base : Nat} {e : TypeId} {z : Value} {size bytes : Nat} (E : Elem P t e z size bytes) (hg : o.guard = none)
    (ho : o.op = .call { callee := .builtin .append, args := #[s, x], argTypes := #[t, t] })
    {A0 : Option Addr} {n c0 : Nat} {xs : List Value} (hs : a.eval s = .slice A0 n c0) (hown : Ow w base e size A0 n c0 xs)
    {A : Option Addr} {m c : Nat} {news : List Value} (hx : a.eval x = .slice A m c) (hl : Lies w A news) (hm : news.length = m * size) (h1 : ∀ u ∈ news, u.oneCell' = true)
    (h63 : n + m ≤ maxLen) (hbytes : (n + m) * bytes ≤ 140737488355328) (hbase : base ≤ w.heap.size)
    (h : ∀ A' c' w', Ow w' base e size A' (n + m) c' (xs ++ news) → w.grownBy w' (Value.slice A0 n c0).ownBlock → Below base w w' → K (a.put o.dst (.slice A' (n + m) c')) w') :
    if Region.wanted o (yielded ops a.tmps) = true then Oper.wp P o a w K Q else X := by
  have hw : Region.wanted o (yielded ops a.tmps) = true := by simp [Region.wanted, hg]
  rw [if_pos hw]
  exact wp_app E ho hs hown hx hl hm h1 h63 hbytes hbase h

/-- the block is a row of bytes -/
def Row5 (w : World) (ad : Addr) : Prop := ∃ cur fz, w.heap[ad.block]? = some (.cells cur 5 fz)
theorem Row5.of {w : World} {base : Nat} {A : Option Addr} {n c : Nat} {xs : List Value} (h : Ow w base 5 1 A n c xs) (ad : Addr) (ha : A = some ad) : Row5 w ad := by
  subst ha
  rcases h.2 with ⟨hv, _⟩ | ⟨g, cap, cur, hv, _, hh, _⟩
  · cases hv
  · injection hv with e1; injection e1 with e1; subst e1; exact ⟨cur, _, hh⟩
theorem Row5.below {w w' : World} {ad : Addr} (h : Row5 w ad) (hb : Below w.heap.size w w') : Row5 w' ad := by
  obtain ⟨cur, fz, h⟩ := h
  exact ⟨cur, fz, (hb.block _ (Array.getElem?_eq_some_iff.1 h).1).trans h⟩
theorem Row5.same {w w' : World} {ad : Addr} (h : Row5 w ad) {b2 : Nat} {B : Option Addr} {m d : Nat} {ys : List Value} (k : Ow w b2 23 1 B m d ys) (hg : w.grownBy w' (Value.slice B m d).ownBlock) : w'.heap[ad.block]? = w.heap[ad.block]? := by
  obtain ⟨cur, fz, h⟩ := h
  refine hg.block _ (Array.getElem?_eq_some_iff.1 h).1 ?_
  rcases k.2 with ⟨kv, _⟩ | ⟨g2, cap2, cur2, kv, _, kh, _⟩
  · injection kv with e1; subst e1; intro q; cases q
  · injection kv with e1; subst e1
    intro q
    have q2 : ad.block = g2 := Option.some.inj q
    rw [q2, kh] at h
    injection h with h; injection h with _ h _; cases h
theorem Sl.same {w w' : World} {ad : Addr} {n c : Nat} {xs : List Value} (h : Sl w (some ad) n c xs) (hb : w'.heap[ad.block]? = w.heap[ad.block]?) : Sl w' (some ad) n c xs :=
  ⟨h.len, h.cap, h.top, h.lies.elim .inl fun ⟨p, hp, hc⟩ => .inr ⟨p, hp, fun j u hj => by
    injection hp with hp; subst hp
    rw [World.cell?_of_block (w := w) (w' := w') (a := ad.add j) (by rw [blk_add]; exact hb)]; exact hc j u hj⟩⟩
/-- what the loop of Split carries -/
def SplitRel (R : List UInt8) (W0 : World) (rest l : Value) (w : World) : Prop :=
  ∃ (A : Option Addr) (n c : Nat) (r : List UInt8) (B : Option Addr) (d : Nat) (xs : List Value) (bss : List (List UInt8)),
    (∀ ad, A = some ad → Row5 w ad) ∧ rest = .slice A n c ∧ l = .slice B bss.length d ∧ Sl w A n c (bv r) ∧ Ow w W0.heap.size 23 1 B bss.length d xs ∧ BO w W0.heap.size xs bss ∧ Below W0.heap.size W0 w ∧
    Hid (vecs R.length R = (vecs r.length r).map (bss ++ ·)) ∧ Hid (bss.length + n ≤ R.length)

/-- what Split answers: a list, or an error (the first vector's own, or 'form') -/
def SplitPost (s : Option (List (List UInt8) × Nat)) (q : Nat) (w : World) (e : Ending) (w' : World) : Prop :=
  Below w.heap.size w w' ∧ match s with
    | some (bss, k) => ∃ A' c' xs, e = .returned (.tuple #[.slice A' bss.length c', .int .i64 (k : Int), .int .i64 0]) ∧ Ow w' w.heap.size 23 1 A' bss.length c' xs ∧ BO w' w.heap.size xs bss
    | none => ∃ p : Nat, p ≠ 0 ∧ p = (if q ≠ 0 then q else 11) ∧ e = .returned (.tuple #[.slice none 0 0, .int .i64 0, .int .i64 (p : Int)])

set_option maxRecDepth 100000 in
set_option maxHeartbeats 2000000 in
theorem split_any (A : Option Addr) (n c : Nat) (l : List UInt8) (w : World) (h : Sl w A n c (bv l)) (hn : Hid (n ≤ 1000000000000)) :
    Calls Try.prog 22 #[.slice A n c] w (SplitPost (splitL l) (takeB l).2.2 w) := by
  have hl := h.len; rw [bv_length] at hl
  have hcall := takeB_any A n c l w h (Lib.hid (by have := hn.out; omega))
  unfold TB at hcall
  obtain ⟨R, hR⟩ : ∃ R, (takeB l).1 = R := ⟨_, rfl⟩
  obtain ⟨k, hk⟩ : ∃ k, (takeB l).2.1 = k := ⟨_, rfl⟩
  obtain ⟨q, hq⟩ : ∃ q, (takeB l).2.2 = q := ⟨_, rfl⟩
  have hRn : q = 0 → R.length ≤ n := fun h0 => by
    have := takeB_ok l (by rw [hq]; exact h0)
    rw [hR, hk] at this; omega
  rw [hR, hk, hq] at hcall
  have hsp : splitL l = if q ≠ 0 then none else (vecs R.length R).map fun x => (x, k) := by unfold splitL; rw [hR, hk, hq]
  rw [hq]
  obtain ⟨S, hS⟩ : ∃ S, splitL l = S := ⟨_, rfl⟩
  rw [hS]
  rw [hS] at hsp
  have HSP := Lib.hid hsp
  have HC := Lib.hid hcall; clear hcall hR hk hq hl hS hsp
  by_cases q0 : q = 0
  · subst q0
    have HR := Lib.hid (hRn rfl); clear hRn
    go_enter Try.func22, Try.ntmps22
    go_wp2_with (go_at_call 57; refine HC.out.mono ?_; rintro e w1 ⟨A1, c1, rfl, hO1, hB1⟩)
    go_loopw [5, 8] (fun r l wr => SplitRel R w r l wr) (fun r _ _ => slen r)
    case atStart => exact ⟨A1, R.length, c1, R, none, 0, [], [], Row5.of hO1, rfl, rfl, hO1.sl, Ow.nil _ _ _ _, BO.nil _ _, hB1, Lib.hid (by simp), Lib.hid (by simp)⟩
    case round =>
      obtain ⟨A2, n2, c2, r, B, d, xs, bss, hRow, rfl, rfl, hS, hO, hBO, hB, hV, hN⟩ := hrel
      have hr := hS.len; rw [bv_length] at hr
      have hcap := hS.cap; have htop := hS.top; unfold maxLen at htop
      by_cases hn0 : n2 = 0
      · subst hn0
        have hr0 : r = [] := List.eq_nil_of_length_eq_zero hr
        subst hr0
        go_wp2_with fail
        go_ret3
        have hv := hV.out
        have hv2 : vecs R.length R = some bss := by rw [hv]; simp [vecs]
        rw [HSP.out, if_neg (by simp), hv2, Option.map_some]
        exact ⟨hB, B, d, xs, rfl, hO, hBO⟩
      · have hne : r ≠ [] := by intro h0; subst h0; simp at hr; omega
        have hcall := takeB_any A2 n2 c2 r wr hS (Lib.hid (by have := hn.out; have := HR.out; have := hN.out; omega))
        unfold TB at hcall
        obtain ⟨x, hx⟩ : ∃ x, (takeB r).1 = x := ⟨_, rfl⟩
        obtain ⟨j, hj⟩ : ∃ j, (takeB r).2.1 = j := ⟨_, rfl⟩
        obtain ⟨q, hq⟩ : ∃ q, (takeB r).2.2 = q := ⟨_, rfl⟩
        have hok := takeB_ok r
        have hvs := vecs_step r hne
        have hvn := vecs_none r hne
        rw [hx, hj, hq] at hcall hok hvs
        rw [hq] at hvn
        clear hx hj hq
        have HC2 := Lib.hid hcall; clear hcall
        have n0 : 0 < n2 := by omega
        have n1 : (0 : Int) < (n2 : Int) := by omega
        by_cases q0 : q = 0
        · subst q0
          have hok := hok rfl; have HVS := Lib.hid (hvs rfl)
          clear hvs hvn
          have hj1 := hok.2.1; have hj2 : j ≤ n2 := by omega
          clear hok
          go_wp2_with (go_at_call 57; refine HC2.out.mono ?_; rintro e w3 ⟨A3, c3, rfl, hO3, hB3⟩)
          have hS3 := hS.below hB3
          have hsub := hS3.sub (lo := j) (hi := n2) hj2 (Nat.le_refl _)
          rw [List.take_of_length_le (by rw [bv_length]; omega), ← bv_drop] at hsub
          have hBO3 := (hBO.keep hB3).snoc rfl (hO3.mono hB.size)
          have hOl := hO.below hB3
          have mixed : Try.prog.follows Departure.mixedOrders = true := by kernel_rfl
          obtain ⟨ad, hl0, rfl, _⟩ := hS3.byte (k := 0) n0
          have HB24 : Hid ((bss.length + 1) * 24 ≤ 140737488355328 ∧ bss.length + 1 ≤ maxLen) := Lib.hid (by have := hn.out; have := HR.out; have := hN.out; unfold maxLen; omega)
          have HD : Hid (vecs R.length R = (vecs (r.drop j).length (r.drop j)).map ((bss ++ [x]) ++ ·)) := Lib.hid (by
            rw [hV.out, HVS.out, List.length_drop, hr, Option.map_map]
            congr 1; funext y; simp)
          have HN2 : Hid ((bss ++ [x]).length + (n2 - j) ≤ R.length) := Lib.hid (by rw [List.length_append, List.length_singleton]; have := hN.out; omega)
          have HBS := hB.size; have HB3S := hB3.size
          have hw3 : w.heap.size ≤ w3.heap.size := Nat.le_trans HBS HB3S
          have j1 : (0 : Int) ≤ (j : Int) := by omega
          have j2 : (j : Int) ≤ (n2 : Int) := by omega
          have hk0 := hok trivial
          clear hok HC2 HC hS hO hBO HVS
          have hrow3 : Row5 w3 ad := (hRow ad rfl).below hB3
          have hfin : ∀ w4 : World, (w3.drew.alloc (.cells #[.slice A3 x.length c3] 23)).grownBy w4 (Value.slice B bss.length d).ownBlock → w4.heap[ad.block]? = w3.heap[ad.block]? ∧ BO w4 w.heap.size (xs ++ [Value.slice A3 x.length c3]) (bss ++ [x]) := fun w4 hG => by
            have hrow4 : Row5 (w3.drew.alloc (.cells #[.slice A3 x.length c3] 23)) ad := hrow3.below (((Below.refl _ w3).drew).alloc (Nat.le_refl _) _)
            refine ⟨(hrow4.same (hOl.drew.alloc _) hG).trans ?_, (hBO3.keep (((Below.refl _ w3).drew).alloc (Nat.le_refl _) _)).other (hOl.drew.alloc _) (by decide) hG⟩
            obtain ⟨cur, fz, hh⟩ := hrow3
            rw [hh]; exact heap_old w3.drew _ hh
          by_cases hcj : c2 = j
          · subst hcj
            rw [if_pos rfl] at hsub
            go_region_law_o (refine step_app (t := 35) (n := bss.length) (m := 1) (c := 1) E35 rfl rfl (by simp [Act.eval]) (hOl.drew.alloc (.cells #[.slice A3 x.length c3] 23)) (by simp [Act.eval]) (lies_new w3.drew (.slice A3 x.length c3) 23) rfl (by simp [Value.oneCell']) HB24.out.2 HB24.out.1 (by simp; omega) ?_; intro A4 c4 w4 hO4 hG4 hB4)
            obtain ⟨f1, f2⟩ := hfin w4 hG4
            have f3 := hsub.same f1
            have HF := Lib.hid f2; have HR4 : Hid (Row5 w4 ad) := Lib.hid (by obtain ⟨cur, fz, hh⟩ := hrow3; exact ⟨cur, fz, by show w4.heap[ad.block]? = _; rw [f1]; exact hh⟩)
            have HBB : Hid (Below w.heap.size w w4) := Lib.hid (((hB.trans (hB3.mono HBS)).trans (((Below.refl _ w3).drew).alloc hw3 _)).trans hB4)
            clear hfin hG4 hB4 f1 f2 hrow3
            go_simp
            go_wp2_with fail
            go_roundw
            case rel => exact ⟨_, n2 - c2, c2 - c2, r.drop c2, A4, c4, _, bss ++ [x], fun p hp => by injection hp with hp; subst hp; exact HR4.out, by simp; omega, by rw [List.length_append, List.length_singleton], f3, by rw [List.length_append, List.length_singleton]; exact hO4, HF.out, HBB.out, HD, HN2⟩
            case measure => simp [slen]; omega
          · rw [if_neg hcj] at hsub
            rw [Option.map_some] at hsub
            go_region_law_o (refine step_app (t := 35) (n := bss.length) (m := 1) (c := 1) E35 rfl rfl (by simp [Act.eval]) (hOl.drew.alloc (.cells #[.slice A3 x.length c3] 23)) (by simp [Act.eval]) (lies_new w3.drew (.slice A3 x.length c3) 23) rfl (by simp [Value.oneCell']) HB24.out.2 HB24.out.1 (by simp; omega) ?_; intro A4 c4 w4 hO4 hG4 hB4)
            obtain ⟨f1, f2⟩ := hfin w4 hG4
            have f3 := hsub.same (w' := w4) (by rw [blk_add]; exact f1)
            have HF := Lib.hid f2; have HR4 : Hid (Row5 w4 (ad.add j)) := Lib.hid (by obtain ⟨cur, fz, hh⟩ := hrow3; exact ⟨cur, fz, by rw [blk_add, f1]; exact hh⟩)
            have HBB : Hid (Below w.heap.size w w4) := Lib.hid (((hB.trans (hB3.mono HBS)).trans (((Below.refl _ w3).drew).alloc hw3 _)).trans hB4)
            clear hfin hG4 hB4 f1 f2 hrow3
            go_simp
            go_wp2_with fail
            go_roundw
            case rel => exact ⟨_, n2 - j, c2 - j, r.drop j, A4, c4, _, bss ++ [x], fun p hp => by injection hp with hp; subst hp; exact HR4.out, rfl, by rw [List.length_append, List.length_singleton], f3, by rw [List.length_append, List.length_singleton]; exact hO4, HF.out, HBB.out, HD, HN2⟩
            case measure => simp [slen]; omega
        · have HVN := Lib.hid (hvn q0)
          clear hvs hvn hok
          have q1 : ((q : Int) == 0) = false := by simp; omega
          have q2 : (q == 0) = false := by simp; omega
          go_wp2_with (go_at_call 57; refine HC2.out.mono ?_; rintro e w3 ⟨A3, c3, rfl, hO3, hB3⟩)
          go_ret3
          have hv2 : vecs R.length R = none := by rw [hV.out, HVN.out]; rfl
          rw [HSP.out, if_neg (by simp), hv2, Option.map_none]
          exact ⟨hB.trans (hB3.mono hB.size), 11, by omega, rfl, rfl⟩
  · clear hRn
    have q1 : ((q : Int) == 0) = false := by simp; omega
    have q2 : (q == 0) = false := by simp; omega
    go_enter Try.func22, Try.ntmps22
    go_wp2_with (go_at_call 57; refine HC.out.mono ?_; rintro e w1 ⟨A1, c1, rfl, hO1, hB1⟩)
    go_ret3
    rw [HSP.out, if_pos q0]
    exact ⟨hB1, q, q0, (if_pos q0).symm, rfl⟩
end Go.Proofs.Ytjebmmmjjiomfaa
