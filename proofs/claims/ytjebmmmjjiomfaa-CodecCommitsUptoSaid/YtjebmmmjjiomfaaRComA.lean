/- Appending to a row of one's own: where the row lies then, and what else is kept. The walk of the reference's commit. The walk of the reference's Commit. -/
import Derived.Test.YtjebmmmjjiomfaaRWTree
import Derived.Test.YtjebmmmjjiomfaaCREls
import Derived.Test.YtjebmmmjjiomfaaCBigC
import Derived.Test.YtjebmmmjjiomfaaCSz
import Derived.Deep.RegionHeld3
import Derived.Deep.CutRange
import Derived.BigQuiet
namespace Go.Proofs.Ytjebmmmjjiomfaa
open Go.RowKit

theorem KX.grownR {w w6 : World} {v : Value} (hG : w.grownBy w6 v.ownBlock) : KX (fun b => v.ownBlock = some b) w w6 :=
  ⟨(Below.refl 0 w).grown hG (Nat.zero_le _) (fun _ _ => Nat.zero_le _), fun b hb hx => hG.block b hb (fun e => hx e.symm)⟩
/-- where the row lies behind an append -/
def Moved (w : World) (A0 A' : Option Addr) : Prop := ∀ i, A' = some ⟨i, 0, none⟩ → A0 = some ⟨i, 0, none⟩ ∨ w.heap.size ≤ i
theorem run_app_blkN {P : Program} (w : World) {base : Nat} {t ty e : TypeId} {z : Value} {bytes : Nat} (E : Elem P t e z 1 bytes)
    {A0 : Option Addr} {n c0 : Nat} {xs : List Value} (hown : Ow w base e 1 A0 n c0 xs) {A : Option Addr} {m c : Nat} {news : List Value} (hl : Lies w A news) (hm : news.length = m * 1) (h1 : ∀ u ∈ news, u.oneCell' = true)
    (h63 : n + m ≤ maxLen) (hbytes : (n + m) * bytes ≤ 140737488355328) {A' : Option Addr} {n' c' : Nat} {w' : World} (hr : (Builtin.append_ #[t, t] ty #[.slice A0 n c0, .slice A m c]).run P w = .ok (.slice A' n' c') w') :
    Moved w A0 A' := by
  obtain ⟨i, hi, hz, hs, hb⟩ := info_parts E.info
  have h63' : n + m ≤ 9223372036854775807 := by unfold maxLen at h63; omega
  rw [Nat.mul_one] at hm
  rcases A with _ | ad
  · have hn : news = [] := by
      rcases hl with h | ⟨ad, h, _⟩
      · exact h
      · cases h
    subst hn
    have hm0 : m = 0 := by simpa using hm.symm
    subst hm0
    have hrun : (Builtin.append_ #[t, t] ty #[.slice A0 n c0, .slice none 0 c]).run P w = .ok (.slice A0 n c0) w := by
      rcases hown.2 with ⟨hv, rfl⟩ | ⟨g, cap, cur, hv, _, _, hnc, _⟩
      · injection hv with e1 e2 e3; subst e1; subst e3
        simp [Builtin.append_, run_underlying E.und, sizeOf, typeInfo, hi, Builtin.lenOf, Builtin.firstCells]
      · injection hv with e1 e2 e3; subst e1; subst e3
        simp [Builtin.append_, run_underlying E.und, sizeOf, typeInfo, hi, Builtin.lenOf, Builtin.firstCells, hnc, storeCells]
    rw [hrun] at hr
    injection hr with h2 h3
    injection h2 with h2
    intro j hj
    rw [← hj]; exact .inl h2
  · have hnews : ∀ j u, news[j]? = some u → w.cell? (ad.add j) = some u := by
      intro j u hu
      rcases hl with h | ⟨ad', h, hc⟩
      · subst h; simp at hu
      · injection h with h; subst h; exact hc j u hu
    rcases hown.2 with ⟨hv, rfl⟩ | ⟨g, cap, cur, hv, hbg, hg, hnc, hcm, hcs, htake⟩
    · rw [hv] at hr
      by_cases hm0 : m = 0
      · subst hm0
        have hn : news = [] := List.eq_nil_of_length_eq_zero hm
        subst hn
        have hrun : (Builtin.append_ #[t, t] ty #[.slice none 0 0, .slice (some ad) 0 c]).run P w = .ok (.slice none 0 0) w := by
          simp [Builtin.append_, run_underlying E.und, sizeOf, typeInfo, hi, Builtin.lenOf, Builtin.firstCells, loadCells, loadCellsFrom]
        rw [hrun] at hr
        injection hr with h2 h3
        injection h2 with h2
        intro j hj
        rw [← h2] at hj; cases hj
      · rw [run_append_nil (P := P) w t ty e i z E.und hi hz ad m c news (by rw [hs, Nat.mul_one]; exact hm) hnews (by omega) (by omega) (by rw [hb]; rw [Nat.zero_add] at hbytes; omega)] at hr
        injection hr with h2 h3
        injection h2 with h2
        intro j hj
        rw [← h2] at hj; injection hj with hj; injection hj with hj
        exact .inr (by omega)
    · rw [hv] at hr
      injection hv with hv1 hv2 hv3
      by_cases hroom : n + m ≤ cap
      · rw [run_append_room (P := P) w t ty e i E.und hi g n cap cur hg ad m c news (by rw [hs, Nat.mul_one]; exact hm) hnews h1 hroom (by rw [hs, hcs]; omega)] at hr
        injection hr with h2 h3
        injection h2 with h2
        intro j hj
        rw [← h2] at hj
        exact .inl (hv1.trans hj)
      · have holds : ∀ j v, xs[j]? = some v → w.cell? ((⟨g, 0, none⟩ : Addr).add j) = some v := World.ownsRow.cells hown (g := g) (by rw [hv1]; rfl)
        rw [run_append_grow (P := P) w t ty e i z E.und hi hz ⟨g, 0, none⟩ n cap xs (by rw [hs]; exact hown.1) holds ad m c news (by rw [hs, Nat.mul_one]; exact hm) hnews (by omega) (by omega) (by rw [hb]; exact growslice_fits (by omega) hbytes)] at hr
        injection hr with h2 h3
        injection h2 with h2
        intro j hj
        rw [← h2] at hj; injection hj with hj; injection hj with hj
        exact .inr (by omega)
theorem wp_appN {P : Program} {w : World} {o : Oper} {a : Act} {K : Act → World → Prop} {Q : Exit → Act → World → Prop} {s x : Operand} {t : TypeId}
    {base : Nat} {e : TypeId} {z : Value} {bytes : Nat} (E : Elem P t e z 1 bytes)
    (ho : o.op = .call { callee := .builtin .append, args := #[s, x], argTypes := #[t, t] })
    {A0 : Option Addr} {n c0 : Nat} {xs : List Value} (hs : a.eval s = .slice A0 n c0) (hown : Ow w base e 1 A0 n c0 xs)
    {A : Option Addr} {m c : Nat} {news : List Value} (hx : a.eval x = .slice A m c) (hl : Lies w A news) (hm : news.length = m * 1) (h1 : ∀ u ∈ news, u.oneCell' = true)
    (h63 : n + m ≤ maxLen) (hbytes : (n + m) * bytes ≤ 140737488355328) (hbase : base ≤ w.heap.size)
    (h : ∀ A' c' w', Ow w' base e 1 A' (n + m) c' (xs ++ news) → w.grownBy w' (Value.slice A0 n c0).ownBlock → Below base w w' → Moved w A0 A' → K (a.put o.dst (.slice A' (n + m) c')) w') : o.wp P a w K Q := by
  obtain ⟨A', c', w', hr, h2, h3⟩ := run_app (P := P) w (ty := o.type) E hown hl hm h1 h63 hbytes hbase (c := c)
  have hmv := run_app_blkN (P := P) w (ty := o.type) E hown hl hm h1 h63 hbytes hr
  unfold Oper.wp execOp
  simp only [ho, resolve, invoke, builtin, Sem.run_bind, Sem.run_pure, Result.andThen_ok, List.map_toArray, List.map_cons, List.map_nil, hs, hx, hr]
  exact h A' c' w' h2 h3 ((Below.refl _ _).grown h3 hbase (Ow.base_ hown)) hmv
theorem wpList_appN {P : Program} {w : World} {ops : Array Oper} {rest : List Oper} {o : Oper} {a : Act} {Q : Exit → Act → World → Prop} {s x : Operand} {t : TypeId}
    {base : Nat} {e : TypeId} {z : Value} {bytes : Nat} (E : Elem P t e z 1 bytes) (hgd : o.guard = none)
    (ho : o.op = .call { callee := .builtin .append, args := #[s, x], argTypes := #[t, t] })
    {A0 : Option Addr} {n c0 : Nat} {xs : List Value} (hs : a.eval s = .slice A0 n c0) (hown : Ow w base e 1 A0 n c0 xs)
    {A : Option Addr} {m c : Nat} {news : List Value} (hx : a.eval x = .slice A m c) (hl : Lies w A news) (hm : news.length = m * 1) (h1 : ∀ u ∈ news, u.oneCell' = true)
    (h63 : n + m ≤ maxLen) (hbytes : (n + m) * bytes ≤ 140737488355328) (hbase : base ≤ w.heap.size)
    (h : ∀ A' c' w', Ow w' base e 1 A' (n + m) c' (xs ++ news) → w.grownBy w' (Value.slice A0 n c0).ownBlock → Below base w w' → Moved w A0 A' → wpList P ops Q rest (a.put o.dst (.slice A' (n + m) c')) w') : wpList P ops Q (o :: rest) a w :=
  wpList_plain hgd fun _ hK => wp_appN E ho hs hown hx hl hm h1 h63 hbytes hbase fun A' c' w' h2 h3 h4 h5 => hK _ _ (h A' c' w' h2 h3 h4 h5)
theorem step_appN {P : Program} {w : World} {ops : Array Oper} {o : Oper} {a : Act} {K : Act → World → Prop} {Q : Exit → Act → World → Prop} {X : Prop} {s x : Operand} {t : TypeId}
    {base : Nat} {e : TypeId} {z : Value} {bytes : Nat} (E : Elem P t e z 1 bytes) (hg : o.guard = none)
    (ho : o.op = .call { callee := .builtin .append, args := #[s, x], argTypes := #[t, t] })
    {A0 : Option Addr} {n c0 : Nat} {xs : List Value} (hs : a.eval s = .slice A0 n c0) (hown : Ow w base e 1 A0 n c0 xs)
    {A : Option Addr} {m c : Nat} {news : List Value} (hx : a.eval x = .slice A m c) (hl : Lies w A news) (hm : news.length = m * 1) (h1 : ∀ u ∈ news, u.oneCell' = true)
    (h63 : n + m ≤ maxLen) (hbytes : (n + m) * bytes ≤ 140737488355328) (hbase : base ≤ w.heap.size)
    (h : ∀ A' c' w', Ow w' base e 1 A' (n + m) c' (xs ++ news) → w.grownBy w' (Value.slice A0 n c0).ownBlock → Below base w w' → K (a.put o.dst (.slice A' (n + m) c')) w') :
    if Region.wanted o (yielded ops a.tmps) = true then Oper.wp P o a w K Q else X := by
  have hw : Region.wanted o (yielded ops a.tmps) = true := by simp [Region.wanted, hg]
  rw [if_pos hw]
  exact wp_appN E ho hs hown hx hl hm h1 h63 hbytes hbase fun A' c' w' h2 h3 h4 _ => h A' c' w' h2 h3 h4
/-- two rows that lie in no block together -/
def Apt (A B : Option Addr) : Prop := ∀ i, B = some ⟨i, 0, none⟩ → A ≠ some ⟨i, 0, none⟩
/-- another row is kept -/
theorem Ow.keepN {w w' : World} {base base' : Nat} {e e' : TypeId} {A0 B : Option Addr} {n c0 m d size' : Nat} {xs ys : List Value} (h : Ow w base e 1 A0 n c0 xs) (k : Ow w base' e' size' B m d ys) (hG : w.grownBy w' (Value.slice A0 n c0).ownBlock) (ha : Apt A0 B) : Ow w' base' e' size' B m d ys :=
  k.kx (KX.grownR hG) (fun i e hx => by
    rcases h.2 with ⟨hv, _⟩ | ⟨g, cap, cur, hv, _⟩
    · injection hv with hv; subst hv; cases hx
    · injection hv with hv
      subst hv
      have : g = i := by simpa [Value.ownBlock] using hx
      subst this
      exact ha g e rfl)
/-- they stay apart -/
theorem Apt.moved {w : World} {A0 A' B : Option Addr} {base' : Nat} {e' : TypeId} {m d size' : Nat} {ys : List Value} (ha : Apt A0 B) (hm : Moved w A0 A') (k : Ow w base' e' size' B m d ys) : Apt A' B := fun i hB hA => by
  rcases hm i hA with h | h
  · exact ha i hB h
  · have := k.inb hB; omega
/-- an elder row and a younger one -/
theorem Apt.elder {w w' : World} {base base' : Nat} {e e' : TypeId} {A B : Option Addr} {n c m d size size' : Nat} {xs ys : List Value} (h : Ow w base e size A n c xs) (k : Ow w' base' e' size' B m d ys) (hb : w.heap.size ≤ base') : Apt A B := fun i hB hA => by
  have := h.inb hA; have := k.inb hB; omega
theorem Apt.nil (B : Option Addr) : Apt none B := fun i _ h => by cases h
/-- whether all is so, and the bytes -/
def Yes (y : Bool) (b : List UInt8) (o : Option (List UInt8)) : Prop := o = if y then some b else none
theorem Yes.seq {y z : Bool} {a b : List UInt8} {o p : Option (List UInt8)} (h : Yes y a o) (k : Yes z b p) : Yes (y && z) (a ++ b) (seqB o p) := by
  unfold Yes at *
  subst h; subst k
  cases y <;> cases z <;> rfl
theorem Yes.vec {y z : Bool} {b c : List UInt8} {o : Option (List UInt8)} (h : Yes y b o) (k : Yes z c (vecB b)) : Yes (y && z) c (o.bind vecB) := by
  unfold Yes at *
  subst h
  cases y
  · rfl
  · rw [Bool.true_and, ← k]; rfl
set_option maxRecDepth 100000 in
set_option maxHeartbeats 32000000 in
theorem rwcommit_ok (x : CM) (P : CP) (w : World) (hM : CMem w x P) (hz : Hid (szC x ≤ 1048576)) :
    Calls Try.prog 80 #[cv x P] w (PEnd (commitB x) 536870912 w) := by
  obtain ⟨pA, pn, pc, lA, ln, lc, nA, nn, nc⟩ := P
  obtain ⟨hp, hu, hn⟩ := hM
  dsimp only at hp hu hn
  have htop := hp.top; have hcap := hp.cap; have ntop := hn.top; have ncap := hn.cap; unfold maxLen at htop ntop
  have HLp := Lib.hid hp.len; have HLn := Lib.hid hn.len
  have HLu : Hid (x.leaf.un.length = ln) := Lib.hid (by have := hu.len; rwa [iv_length] at this)
  obtain ⟨g, hg⟩ : ∃ g, w.heap.size = g := ⟨_, rfl⟩
  obtain ⟨wb, hwb⟩ : ∃ wb, w.alloc (.cells (cc x ⟨pA, pn, pc, lA, ln, lc, nA, nn, nc⟩) 72) = wb := ⟨_, rfl⟩
  have hBb : Below w.heap.size w wb := by rw [← hwb]; exact nxa (Below.refl _ _) _
  have hzb : wb.heap.size = g + 1 := by rw [← hwb]; simp [hg]
  have k0 : wb.heap[g]? = some (.cells (cc x ⟨pA, pn, pc, lA, ln, lc, nA, nn, nc⟩) 72) := by rw [← hwb, ← hg]; exact heap_alloc_new _ _
  obtain ⟨wr, hwr⟩ : ∃ wr, wb.alloc (.cells #[.int .i64 x.by_, .int .i64 x.epoch] 3) = wr := ⟨_, rfl⟩
  have hBr : Below wb.heap.size wb wr := by rw [← hwr]; exact nxa (Below.refl _ _) _
  have hzr : wr.heap.size = g + 1 + 1 := by rw [← hwr]; simp [hzb]
  have hrow : Sl wr (some ⟨g + 1, 0, none⟩) 2 2 (iv [x.by_, x.epoch]) := by
    have := Sl.lit wb [x.by_, x.epoch] #[.int .i64 x.by_, .int .i64 x.epoch] rfl 2 rfl (by omega)
    rwa [hwr, hzb] at this
  have HC := Lib.hid (rwints_ok (some ⟨g + 1, 0, none⟩) 2 2 [x.by_, x.epoch] wr hrow (by show _ ≤ _; omega))
  obtain ⟨U1, hU1⟩ : ∃ S : Nat → Nat, (fun k => ((x.props.take k).map fun p => 4 * p.leaf.un.length + 44).sum) = S := ⟨_, rfl⟩
  obtain ⟨U2, hU2⟩ : ∃ S : Nat → Nat, (fun k => ((x.nodes.take k).map fun p => 4 * p.seals.length + 8).sum) = S := ⟨_, rfl⟩
  have HZ : Hid (pn ≤ 1048576 ∧ nn ≤ 1048576 ∧ ln ≤ 1048576 ∧ U1 pn ≤ 46137344 ∧ U2 nn ≤ 8388608) := Lib.hid (by
    have h0 := hz.out
    rw [← hU1, ← hU2, ← HLp.out, ← HLn.out, ← HLu.out]; dsimp only
    rw [List.take_length, List.take_length, sum_lin (fun p : PR => p.leaf.un.length), sum_lin (fun p : PN => p.seals.length)]
    unfold szC at h0
    omega)
  have HS1 : Hid (∀ k s, x.props[k]? = some s → U1 (k + 1) = U1 k + (4 * s.leaf.un.length + 44)) := Lib.hid (fun k s h => by rw [← hU1]; exact sum_take _ h)
  have HS2 : Hid (∀ k s, x.nodes[k]? = some s → U2 (k + 1) = U2 k + (4 * s.seals.length + 8)) := Lib.hid (fun k s h => by rw [← hU2]; exact sum_take _ h)
  have HM1 : Hid (∀ k, U1 k ≤ U1 pn) := Lib.hid (fun k => by rw [← hU1, ← HLp.out]; dsimp only; rw [List.take_length]; exact sum_take_le _ _ _)
  have HM2 : Hid (∀ k, U2 k ≤ U2 nn) := Lib.hid (fun k => by rw [← hU2, ← HLn.out]; dsimp only; rw [List.take_length]; exact sum_take_le _ _ _)
  have HWB := Lib.hid hwb; have HWR := Lib.hid hwr; have HB0 := Lib.hid hBb; have HBR := Lib.hid hBr; have K0 := Lib.hid k0; have HZR := Lib.hid hzr; have HZB := Lib.hid hzb
  have HP := Lib.hid (hp.keep (At10.below hBb)); have HN := Lib.hid (hn.keep (At2.below hBb)); have HUN := Lib.hid (hu.below hBb)
  clear hwb hwr hBb hBr k0 hzr hzb hrow hU1 hU2 hp hn hu
  unfold cv
  go_enter Try.func80, Try.ntmps80
  go_wp2_with fail
  rw [HWB.out, HWR.out]
  refine HC.out.mono ?_
  rintro e w1 ⟨b1, y1, A1, c1, rfl, hO1, hl1, ho1, hB1⟩
  have HB1 := Lib.hid (nx HBR.out hB1)
  have HO1 : Hid (Ow w1 (g + 1 + 1) 5 1 A1 b1.length c1 (bv b1)) := Lib.hid (by have := HZR.out; rwa [← this])
  have HY1 : Hid (Yes y1 b1 (nsI [x.by_, x.epoch])) := Lib.hid ho1
  have hs1 : g + 1 + 1 ≤ w1.heap.size := by have := hB1.size; have := HZR.out; omega
  have m0 := (HB1.out.block g (by have := HZB.out; omega)).trans K0.out
  have a2 := cell_of m0 2
  clear hO1 ho1 hB1 m0
  go_wp2_with fail
  go_loopw [5, 6, 42] (fun v r i wr => ∃ (k : Nat) (pb : List UInt8) (yp : Bool) (A6 : Option Addr) (c6 : Nat), k ≤ pn ∧ i = .int .i64 (k : Int) ∧ v = .bool (y1 && yp) ∧ r = .slice A6 pb.length c6 ∧ Ow wr w1.heap.size 5 1 A6 pb.length c6 (bv pb) ∧ pb.length ≤ U1 k ∧ Hid (Yes yp pb (allB propB (x.props.take k))) ∧ Below w1.heap.size w1 wr) (fun _ _ i _ => pn - (intOf i).toNat)
  case atStart => exact ⟨0, [], true, none, 0, Nat.zero_le _, rfl, by simp, rfl, Ow.nil _ _ _ _, Nat.zero_le _, Lib.hid rfl, Below.refl _ _⟩
  case round =>
    clear a2
    obtain ⟨k, pb, yp, A6, c6, hk, rfl, rfl, rfl, hO6, hpl, HA, hB⟩ := hrel
    have hul := HM1.out k
    by_cases hlt : k < pn
    · have hBw : Below wb.heap.size wb wr := nx HB1.out hB
      obtain ⟨ad, s, rfl, hs, E1, n1, d1, d0, d1', d2, d3, d4, d5, d6, d7, d8, d9, hsl⟩ := (HP.out.keep (At10.below hBw)).at_ hlt
      have hun : s.leaf.un.length = n1 := by have := hsl.len; rwa [iv_length] at this
      have hst := HS1.out k s hs
      have hul1 := HM1.out (k + 1)
      have hz4 := HZ.out.2.2.2.1
      have i1 : (k : Int) < (pn : Int) := by omega
      have hn1 : n1 ≤ 46137344 := by omega
      have hpb : pb.length + 4 * n1 + 44 ≤ 46137344 := by omega
      obtain ⟨gb, hgb⟩ : ∃ gb, wr.heap.size = gb := ⟨_, rfl⟩
      obtain ⟨wa, hwa⟩ : ∃ wa, wr.alloc (.cells (pcA s E1 n1 d1) 109) = wa := ⟨_, rfl⟩
      have hza : wa.heap.size = gb + 1 := by rw [← hwa]; simp [hgb]
      have ka : wa.heap[gb]? = some (.cells (pcA s E1 n1 d1) 109) := by rw [← hwa, ← hgb]; exact heap_alloc_new _ _
      have hBa : Below wr.heap.size wr wa := by rw [← hwa]; exact nxa (Below.refl _ _) _
      obtain ⟨wi, hwi⟩ : ∃ wi, wa.alloc (.cells #[.int .i64 s.k, .int .i64 s.from_] 3) = wi := ⟨_, rfl⟩
      have hBi : Below wa.heap.size wa wi := by rw [← hwi]; exact nxa (Below.refl _ _) _
      have hzi : wi.heap.size = gb + 1 + 1 := by rw [← hwi]; simp [hza]
      have hrow : Sl wi (some ⟨gb + 1, 0, none⟩) 2 2 (iv [s.k, s.from_]) := by
        have := Sl.lit wa [s.k, s.from_] #[.int .i64 s.k, .int .i64 s.from_] rfl 2 rfl (by omega)
        rwa [hwi, hza] at this
      have HC1 := Lib.hid (rwints_ok (some ⟨gb + 1, 0, none⟩) 2 2 [s.k, s.from_] wi hrow (by show _ ≤ _; omega))
      have HS := Lib.hid hs; have HST := Lib.hid hst; have HUL := Lib.hid hul1
      have HWA := Lib.hid hwa; have HWI := Lib.hid hwi; have KA := Lib.hid ka; have HBI := Lib.hid hBi; have HBWI := Lib.hid (nx hBa hBi); have HB := Lib.hid hB
      have HO6 := Lib.hid hO6; have HSL := Lib.hid (hsl.below (nx hBa hBi)); have HZI := Lib.hid hzi; have HZA := Lib.hid hza
      have hun' := hun
      have hpl' : pb.length ≤ U1 k := hpl
      clear hs hst hul1 hwa hwi ka hBi hBa hB hO6 hsl hzi hza hBw hrow hun
      go_wp2_with fail
      rw [HWA.out, HWI.out]
      clear d0 d1' d2 d3 d4 d5 d6 d7 d8 d9
      refine HC1.out.mono ?_
      rintro e w2 ⟨p1, z1, B1, f1, rfl, hP1, hq1, hr1, hD1⟩
      have m1 := ((nx HBI.out hD1).block gb (by have := HZA.out; omega)).trans KA.out
      have hs2 := hD1.size
      have HC2 := Lib.hid (rwnode_ok E1 n1 d1 s.leaf w2 (HSL.out.below hD1) (by show n1 ≤ _; exact Nat.le_trans hn1 (by decide)))
      have g2 := cell_of m1 2; have g3 := cell_of m1 3; have g4 := cell_of m1 4; have g5 := cell_of m1 5; have g6 := cell_of m1 6; have g7 := cell_of m1 7
      have HP1 := Lib.hid hP1; have HR1 := Lib.hid hr1; have M1 := Lib.hid m1; have HD1 := Lib.hid (nx HBWI.out hD1)
      unfold nv at HC2
      clear hP1 hr1 hD1 m1
      go_wp2_with fail
      clear g2 g3 g4 g5 g6 g7
      refine HC2.out.mono ?_
      rintro e w3 ⟨p2, z2, B2, f2, rfl, hP2, hq2, hr2, hD2⟩
      have m1 := (hD2.block gb (by have := HZI.out; omega)).trans M1.out
      have hs3 := hD2.size
      obtain ⟨w4, hw4⟩ : ∃ w4, w3.alloc (.cells #[.int .i64 s.at_, .int .i64 s.term] 3) = w4 := ⟨_, rfl⟩
      have hD34 : Below w3.heap.size w3 w4 := by rw [← hw4]; exact nxa (Below.refl _ _) _
      have HC3 := Lib.hid (rwints_ok (some ⟨w3.heap.size, 0, none⟩) 2 2 [s.at_, s.term] w4 (by rw [← hw4]; exact Sl.lit w3 [s.at_, s.term] #[.int .i64 s.at_, .int .i64 s.term] rfl 2 rfl (by omega)) (by show _ ≤ _; omega))
      have g8 := cell_of m1 8; have g9 := cell_of m1 9
      have HP1b := Lib.hid (HP1.out.below hD2); have HP2 := Lib.hid hP2; have HR2 := Lib.hid hr2; have HD2 := Lib.hid (nx HD1.out hD2); have HW4 := Lib.hid hw4; have HD34 := Lib.hid hD34
      clear hP2 hr2 hD2 m1 hw4 hD34
      go_wp2_with fail
      rw [HW4.out]
      clear g8 g9
      refine HC3.out.mono ?_
      rintro e w5 ⟨p3, z3, B3, f3, rfl, hP3, hq3, hr3, hD3⟩
      have hs5 := hD3.size
      have hs4 := HD34.out.size
      have HR3 := Lib.hid hr3; have HD3 := Lib.hid (nx (nx HD2.out HD34.out) hD3)
      have HQ1 := Lib.hid ((HP1b.out.below HD34.out).below hD3)
      have HQ2 := Lib.hid ((HP2.out.below HD34.out).below hD3)
      have HQ3 := Lib.hid hP3
      have HQ6 := Lib.hid (HO6.out.below HD3.out)
      clear hr3 hD3 hP3
      go_upto_region 9 with (fail)
      obtain ⟨qq, hqq⟩ : ∃ q, (y1 && yp) = q := ⟨_, rfl⟩
      have HQQ := Lib.hid hqq
      rw [hqq]
      clear hqq
      go_cut [5] from 70 to 79 (fun r wx => r = .bool (qq && (z1 && (z2 && z3))) ∧ wx = w5)
      case first =>
        clear HA HR1 HR2 HR3 HQQ
        cases qq <;> cases z1 <;> cases z2 <;> cases z3
        all_goals
          go_wp2_with fail
          go_meet
          exact ⟨rfl, rfl⟩
      case rest =>
        obtain ⟨rfl, hwc⟩ := hcut
        have hwc' := hwc.symm
        clear hwc
        subst hwc'
        have ha1 : Apt A6 B1 := Apt.elder HO6.out HP1.out (by have := HBWI.out.size; omega)
        have ha2 : Apt A6 B2 := Apt.elder HO6.out HP2.out (by have := HD1.out.size; omega)
        have ha3 : Apt A6 B3 := Apt.elder HO6.out HQ3.out (by have := HD2.out.size; omega)
        have hb5 : w1.heap.size ≤ w5.heap.size := by have := HB.out.size; have := HD3.out.size; omega
        have HA1 := Lib.hid ha1; have HA2 := Lib.hid ha2; have HA3 := Lib.hid ha3
        clear ha1 ha2 ha3
        go_wp2_with (first
          | (at_builtin; refine wpList_appN (o := ⟨some 82, _, _, _, _, _⟩) E23 rfl rfl rfl HQ6.out rfl HQ1.out.lies (by rw [bv_length, Nat.mul_one]) (bv_one _) (by unfold maxLen; omega) (by omega) hb5 ?_; intro A7 c7 w7 hO7 hG7 hB7 hM7; have hs7 := hB7.size; have HL2 := Lib.hid (HQ6.out.keepN HQ2.out hG7 HA2.out).lies; have HL3 := Lib.hid (HQ6.out.keepN HQ3.out hG7 HA3.out); have HA7 := Lib.hid (HA3.out.moved hM7 HQ3.out); have HO7 := Lib.hid hO7; have HB7 := Lib.hid hB7; clear hO7 hG7 hB7 hM7)
          | (at_builtin; refine wpList_appN (o := ⟨some 84, _, _, _, _, _⟩) E23 rfl rfl rfl HO7.out rfl HL2.out (by rw [bv_length, Nat.mul_one]) (bv_one _) (by unfold maxLen; omega) (by omega) (by omega) ?_; intro A8 c8 w8 hO8 hG8 hB8 hM8; have hs8 := hB8.size; have HL8 := Lib.hid (HO7.out.keepN HL3.out hG8 HA7.out).lies; have HO8 := Lib.hid hO8; have HB8 := Lib.hid hB8; clear hO8 hG8 hB8 hM8)
          | (at_builtin; refine wpList_appN (o := ⟨some 86, _, _, _, _, _⟩) E23 rfl rfl rfl HO8.out rfl HL8.out (by rw [bv_length, Nat.mul_one]) (bv_one _) (by unfold maxLen; omega) (by omega) (by omega) ?_; intro A9 c9 w9 hO9 hG9 hB9 hM9))
        have hbv : bv pb ++ bv p1 ++ bv p2 ++ bv p3 = bv (pb ++ (p1 ++ (p2 ++ p3))) := by simp [bv_append]
        have hln : pb.length + p1.length + p2.length + p3.length = (pb ++ (p1 ++ (p2 ++ p3))).length := by simp; omega
        have HF : Hid (Yes (yp && (z1 && (z2 && z3))) (pb ++ (p1 ++ (p2 ++ p3))) (allB propB (x.props.take (k + 1)))) := Lib.hid (by rw [allB_take propB HS.out]; exact Yes.seq HA.out (Yes.seq HR1.out (Yes.seq HR2.out HR3.out)))
        rw [hbv, hln] at hO9
        have HLN := Lib.hid hln; have HO9 := Lib.hid hO9
        have HBD : Hid (pb.length + p1.length + p2.length + p3.length ≤ U1 (k + 1)) := Lib.hid (by show _ ≤ _; rw [HST.out]; omega)
        clear hbv hln hO9
        go_roundw
        case rel => exact ⟨k + 1, pb ++ (p1 ++ (p2 ++ p3)), yp && (z1 && (z2 && z3)), A9, c9, by omega, by go_num, by rw [← HQQ.out, Bool.and_assoc], by rw [HLN.out], HO9.out, by rw [← HLN.out]; exact HBD.out, HF, ((((nx HB.out HD3.out).trans HB7.out).trans HB8.out).trans hB9)⟩
        case measure => simp [intOf]; omega
    · obtain rfl : k = pn := by omega
      have HT : Hid (x.props.take k = x.props) := Lib.hid (by rw [← HLp.out, List.take_length])
      rw [HT.out] at HA
      have hz4 := HZ.out.2.2.2.1
      have hBw := nx HB1.out hB
      have HV := Lib.hid (rwvec_ok A6 c6 pb true wr hO6.sl (by show _ < _; omega) (some pb) (Lib.hid rfl))
      have HBW := Lib.hid hBw; have HB := Lib.hid hB; have HW1 := Lib.hid (HO1.out.below hB)
      clear hB hBw hO6 HT
      go_wp2_with fail
      refine HV.out.mono ?_
      rintro e w2 ⟨b2, y2, A2, c2, rfl, hO2, hl2, hr2, hD2⟩
      have hbw2 := nx HBW.out hD2
      have m0 := (hbw2.block g (by have := HZB.out; omega)).trans K0.out
      obtain ⟨w3, hw3⟩ : ∃ w3, w2.alloc (.cells #[.int .i64 x.sig, .int .i64 x.tag] 3) = w3 := ⟨_, rfl⟩
      have hD23 : Below w2.heap.size w2 w3 := by rw [← hw3]; exact nxa (Below.refl _ _) _
      have HC3 := Lib.hid (rwints_ok (some ⟨w2.heap.size, 0, none⟩) 2 2 [x.sig, x.tag] w3 (by rw [← hw3]; exact Sl.lit w2 [x.sig, x.tag] #[.int .i64 x.sig, .int .i64 x.tag] rfl 2 rfl (by omega)) (by show _ ≤ _; omega))
      have a11 := cell_of m0 11; have a12 := cell_of m0 12
      have HR2 : Hid (Yes y2 b2 (vecB pb)) := Lib.hid hr2
      have HBW2 := Lib.hid hbw2; have HQ1 := Lib.hid (HW1.out.below hD2); have HO2 := Lib.hid hO2; have HD23 := Lib.hid hD23; have HW3 := Lib.hid hw3
      have hs2 := hD2.size; have hs3 := hD23.size
      have hsB := HB.out.size
      clear hr2 hD2 hbw2 m0 hw3 hD23 hO2 HV
      go_wp2_with fail
      rw [HW3.out]
      clear a11 a12
      refine HC3.out.mono ?_
      rintro e w4 ⟨b3, y3, A3, c3, rfl, hO3, hl3, hr3, hD3⟩
      have hs4 := hD3.size
      have HR3 : Hid (Yes y3 b3 (nsI [x.sig, x.tag])) := Lib.hid hr3
      have HBW4 := Lib.hid (nx (nx HBW2.out HD23.out) hD3)
      have HP1 := Lib.hid ((HQ1.out.below HD23.out).below hD3); have HP2 := Lib.hid ((HO2.out.below HD23.out).below hD3); have HP3 := Lib.hid hO3
      have ha3 : Apt A1 A3 := Apt.elder HO1.out hO3 (by omega)
      have HA3 := Lib.hid ha3
      clear hr3 hD3 hO3 HC3 ha3
      go_upto_region 15 with (first
        | (at_builtin; refine wpList_appN (o := ⟨some 104, _, _, _, _, _⟩) E23 rfl rfl rfl HP1.out rfl HP2.out.lies (by rw [bv_length, Nat.mul_one]) (bv_one _) (by unfold maxLen; omega) (by omega) (by omega) ?_; intro A7 c7 w7 hO7 hG7 hB7 hM7; have hs7 := hB7.size; have HL3 := Lib.hid (HP1.out.keepN HP3.out hG7 HA3.out).lies; have HO7 := Lib.hid hO7; have HB7 := Lib.hid hB7; clear hO7 hG7 hB7 hM7)
        | (at_builtin; refine wpList_appN (o := ⟨some 106, _, _, _, _, _⟩) E23 rfl rfl rfl HO7.out rfl HL3.out (by rw [bv_length, Nat.mul_one]) (bv_one _) (by unfold maxLen; omega) (by omega) (by omega) ?_; intro A4 c4 w8 hO8 hG8 hB8 hM8))
      have hbv : bv b1 ++ bv b2 ++ bv b3 = bv (b1 ++ (b2 ++ b3)) := by simp [bv_append]
      have hln : b1.length + b2.length + b3.length = (b1 ++ (b2 ++ b3)).length := by simp; omega
      rw [hbv] at hO8
      rw [hln] at hO8 ⊢
      have hobl : (b1 ++ (b2 ++ b3)).length ≤ 46137376 := by rw [← hln]; omega
      have HYS := Lib.hid (Yes.seq HY1.out (Yes.seq (Yes.vec HA.out HR2.out) HR3.out))
      have hb8 : Below wb.heap.size wb w8 := HBW4.out.trans ((HB7.out.trans hB8).mono (by have := HZB.out; omega))
      have HO8 := Lib.hid hO8; have HB8 := Lib.hid hb8
      have hs8 : g + 1 + 1 ≤ w8.heap.size := by have := hB8.size; omega
      obtain ⟨ob, hob⟩ : ∃ ob, b1 ++ (b2 ++ b3) = ob := ⟨_, rfl⟩
      rw [hob] at HO8 HYS hobl ⊢
      clear hbv hln hO8 hG8 hB8 hM8 hb8 hob HQ1 HP1 HP2 HP3 HA3 HL3 HO7 HB7 HR3 HBW4
      obtain ⟨qq, hqq⟩ : ∃ q, (y1 && yp) = q := ⟨_, rfl⟩
      have hyk0 : (y1 && ((yp && y2) && y3)) = (qq && (y2 && y3)) := by rw [← hqq]; cases y1 <;> cases yp <;> cases y2 <;> cases y3 <;> rfl
      rw [hyk0] at HYS
      rw [hqq]
      clear hqq hyk0
      go_cut [5] from 107 to 113 (fun r wx => r = .bool (qq && (y2 && y3)) ∧ wx = w8)
      case first =>
        clear HA HR2 HYS HY1
        cases qq <;> cases y2 <;> cases y3
        all_goals
          go_wp2_with fail
          go_meet
          exact ⟨rfl, rfl⟩
      case rest =>
        obtain ⟨rfl, hwc⟩ := hcut
        have hwc' := hwc.symm
        clear hwc
        subst hwc'
        obtain ⟨yk, hyk⟩ : ∃ yk, (qq && (y2 && y3)) = yk := ⟨_, rfl⟩
        rw [hyk] at HYS ⊢
        clear hyk HA HR2 HY1
        have m0 := (HB8.out.block g (by have := HZB.out; omega)).trans K0.out
        have a3 : w8.cell? ⟨g, 3, none⟩ = some (.bool x.has) := cell_of m0 3
        have M0 := Lib.hid m0
        clear m0
        by_cases hh : x.has = true
        · have HH := Lib.hid hh
          rw [hh] at a3
          clear hh
          have m0 := M0.out
          have a4 := cell_of m0 4; have a5 := cell_of m0 5; have a6 := cell_of m0 6; have a7 := cell_of m0 7; have a8 := cell_of m0 8; have a9 := cell_of m0 9
          clear m0
          have hlz := HZ.out.2.2.1
          have hlu := HLu.out
          have HC4 := Lib.hid (rwnode_ok lA ln lc x.leaf w8 (HUN.out.below HB8.out) (by show ln ≤ _; exact Nat.le_trans hlz (by decide)))
          unfold nv at HC4
          go_wp2_with fail
          clear a3 a4 a5 a6 a7 a8 a9
          refine HC4.out.mono ?_
          rintro e v1 ⟨b4, y4, A5, c5, rfl, hO5, hl5, hr5, hD5⟩
          have hsv1 := hD5.size
          have HR4 : Hid (Yes y4 b4 (nodeB x.leaf)) := Lib.hid hr5
          have ha5 : Apt A4 A5 := Apt.elder HO8.out hO5 (Nat.le_refl _)
          have HA5 := Lib.hid ha5; have HO5 := Lib.hid (hO5.alloc (.cells #[.int .u8 1] 5)); have HO8b := Lib.hid ((HO8.out.below hD5).alloc (.cells #[.int .u8 1] 5)); have HBv1 := Lib.hid (nxa (nx HB8.out hD5) (.cells #[.int .u8 1] 5))
          clear ha5 hO5 hr5 hD5
          go_upto_region 20 with (first
            | (at_builtin; refine wpList_appN (o := ⟨some 143, _, _, _, _, _⟩) E23 rfl rfl rfl HO8b.out rfl (lies_cells v1 #[.int .u8 1] 5) rfl (bv_one [1]) (by unfold maxLen; omega) (by omega) (by simp; omega) ?_; intro A7 c7 v2 hO7 hG7 hB7 hM7; have hs7 := hB7.size; have HL5 := Lib.hid (HO8b.out.keepN HO5.out hG7 HA5.out).lies; have HO7 := Lib.hid hO7; have HB7 := Lib.hid hB7; clear hO7 hG7 hB7 hM7)
            | (at_builtin; refine wpList_appN (o := ⟨some 145, _, _, _, _, _⟩) E23 rfl rfl rfl HO7.out rfl HL5.out (by rw [bv_length, Nat.mul_one]) (bv_one _) (by unfold maxLen; omega) (by omega) (by simp at hs7; omega) ?_; intro A9 c9 v3 hO9 hG9 hB9 hM9))
          have hbv : bv ob ++ [Value.int .u8 1] ++ bv b4 = bv (ob ++ ([1] ++ b4)) := by rw [bv_append, bv_append, List.append_assoc]; rfl
          have hln : ob.length + 1 + b4.length = (ob ++ ([1] ++ b4)).length := by simp; omega
          rw [hbv] at hO9
          rw [hln] at hO9 ⊢
          have hobl2 : (ob ++ ([1] ++ b4)).length ≤ 50331709 := by rw [← hln]; omega
          have HYS2 := Lib.hid (Yes.seq HYS.out (Yes.seq (show Yes true [1] (nsI [1]) from rfl) HR4.out))
          have hb9 : Below wb.heap.size wb v3 := HBv1.out.trans ((HB7.out.trans hB9).mono (by have := HZB.out; omega))
          have HO9 := Lib.hid hO9; have HB9 := Lib.hid hb9
          have hsv3 : g + 1 + 1 ≤ v3.heap.size := by have := hB9.size; simp at hs7; omega
          obtain ⟨oc, hoc⟩ : ∃ oc, ob ++ ([1] ++ b4) = oc := ⟨_, rfl⟩
          rw [hoc] at HO9 HYS2 hobl2 ⊢
          clear hbv hln hO9 hG9 hB9 hM9 hb9 hoc HO8b HO5 HA5 HL5 HO7 HB7 HR4 HBv1 HYS hobl hs7 HO8 HB8 M0
          go_cut [5] from 146 to 149 (fun r wx => r = .bool (yk && (true && y4)) ∧ wx = v3)
          case first =>
            clear HYS2
            cases yk <;> cases y4
            all_goals
              go_wp2_with fail
              go_meet
              exact ⟨rfl, rfl⟩
          case rest =>
            obtain ⟨rfl, hwc⟩ := hcut
            have hwc' := hwc.symm
            clear hwc
            subst hwc'
            obtain ⟨yl, hyl⟩ : ∃ yl, (yk && (true && y4)) = yl := ⟨_, rfl⟩
            rw [hyl] at HYS2 ⊢
            clear hyl
            have m0 := (HB9.out.block g (by have := HZB.out; omega)).trans K0.out
            have a10 : v3.cell? ⟨g, 10, none⟩ = some (.slice nA nn nc) := cell_of m0 10
            clear m0
            go_wp2_with fail
            go_loopw [5, 21, 154] (fun v r i wr => ∃ (k : Nat) (nb : List UInt8) (yn : Bool) (A6 : Option Addr) (c6 : Nat), k ≤ nn ∧ i = .int .i64 (k : Int) ∧ v = .bool (yl && yn) ∧ r = .slice A6 nb.length c6 ∧ Ow wr v3.heap.size 5 1 A6 nb.length c6 (bv nb) ∧ nb.length ≤ U2 k ∧ Hid (Yes yn nb (allB pnB' (x.nodes.take k))) ∧ Below v3.heap.size v3 wr) (fun _ _ i _ => nn - (intOf i).toNat)
            case atStart => exact ⟨0, [], true, none, 0, Nat.zero_le _, rfl, by simp, rfl, Ow.nil _ _ _ _, Nat.zero_le _, Lib.hid rfl, Below.refl _ _⟩
            case round =>
              clear a10
              obtain ⟨j, nb, yn, A6, c6, hj, rfl, rfl, rfl, hO6, hnl, HA, hB⟩ := hrel
              have hul := HM2.out j
              by_cases hltj : j < nn
              · have hBw : Below wb.heap.size wb wr := nx HB9.out hB
                obtain ⟨ad, s, rfl, hs, E1, n1, d1, d0, d1', hsl⟩ := (HN.out.keep (At2.below hBw)).at_ hltj
                have hun : s.seals.length = n1 := by have := hsl.len; rwa [iv_length] at this
                have hst := HS2.out j s hs
                have hul1 := HM2.out (j + 1)
                have hz5 := HZ.out.2.2.2.2
                have i1 : (j : Int) < (nn : Int) := by omega
                have hn1 : n1 ≤ 8388608 := by omega
                have hpb : nb.length + 4 * n1 + 8 ≤ 8388608 := by omega
                obtain ⟨gb, hgb⟩ : ∃ gb, wr.heap.size = gb := ⟨_, rfl⟩
                obtain ⟨wa, hwa⟩ : ∃ wa, wr.alloc (.cells #[.int .i64 s.enc, .slice E1 n1 d1] 111) = wa := ⟨_, rfl⟩
                have hza : wa.heap.size = gb + 1 := by rw [← hwa]; simp [hgb]
                have ka : wa.heap[gb]? = some (.cells #[.int .i64 s.enc, .slice E1 n1 d1] 111) := by rw [← hwa, ← hgb]; exact heap_alloc_new _ _
                have hBa : Below wr.heap.size wr wa := by rw [← hwa]; exact nxa (Below.refl _ _) _
                obtain ⟨wi, hwi⟩ : ∃ wi, wa.alloc (.cells #[.int .i64 s.enc] 3) = wi := ⟨_, rfl⟩
                have hBi : Below wa.heap.size wa wi := by rw [← hwi]; exact nxa (Below.refl _ _) _
                have hzi : wi.heap.size = gb + 1 + 1 := by rw [← hwi]; simp [hza]
                have hrow : Sl wi (some ⟨gb + 1, 0, none⟩) 1 1 (iv [s.enc]) := by
                  have := Sl.lit wa [s.enc] #[.int .i64 s.enc] rfl 1 rfl (by omega)
                  rwa [hwi, hza] at this
                have HC1 := Lib.hid (rwints_ok (some ⟨gb + 1, 0, none⟩) 1 1 [s.enc] wi hrow (by show _ ≤ _; omega))
                have HS := Lib.hid hs; have HST := Lib.hid hst
                have HWA := Lib.hid hwa; have HWI := Lib.hid hwi; have KA := Lib.hid ka; have HBI := Lib.hid hBi; have HBWI := Lib.hid (nx hBa hBi); have HB := Lib.hid hB
                have HO6 := Lib.hid hO6; have HSL := Lib.hid (hsl.below (nx hBa hBi)); have HZI := Lib.hid hzi; have HZA := Lib.hid hza
                have hun' := hun
                clear hs hst hul1 hwa hwi ka hBi hBa hB hO6 hsl hzi hza hBw hrow hun
                go_wp2_with fail
                rw [HWA.out, HWI.out]
                clear d0 d1'
                refine HC1.out.mono ?_
                rintro e u2 ⟨p1, z1, B1, f1, rfl, hP1, hq1, hr1, hD1⟩
                have m1 := ((nx HBI.out hD1).block gb (by have := HZA.out; omega)).trans KA.out
                have hs2 := hD1.size
                have HC2 := Lib.hid (rwints_ok E1 n1 d1 s.seals u2 (HSL.out.below hD1) (by show n1 ≤ _; exact Nat.le_trans hn1 (by decide)))
                have g1 := cell_of m1 1
                have HP1 := Lib.hid hP1; have HR1 : Hid (Yes z1 p1 (nsI [s.enc])) := Lib.hid hr1; have HD1 := Lib.hid (nx HBWI.out hD1)
                clear hP1 hr1 hD1 m1
                go_wp2_with fail
                clear g1
                refine HC2.out.mono ?_
                rintro e u3 ⟨p0, z0, B0, f0, rfl, hP0, hq0, hr0, hD2⟩
                have hs3 := hD2.size
                have HC3 := Lib.hid (rwvec_ok B0 f0 p0 z0 u3 hP0.sl (by show _ < _; omega) (nsI s.seals) (Lib.hid hr0))
                have HP1b := Lib.hid (HP1.out.below hD2); have HD2 := Lib.hid (nx HD1.out hD2)
                clear hP0 hr0 hD2
                go_wp2_with fail
                refine HC3.out.mono ?_
                rintro e u5 ⟨p2, z2, B2, f2, rfl, hP2, hq2, hr2, hD3⟩
                have hs5 := hD3.size
                have HR2 : Hid (Yes z2 p2 ((nsI s.seals).bind vecB)) := Lib.hid hr2; have HD3 := Lib.hid (nx HD2.out hD3)
                have HQ1 := Lib.hid (HP1b.out.below hD3)
                have HQ2 := Lib.hid hP2
                have HQ6 := Lib.hid (HO6.out.below HD3.out)
                clear hr2 hD3 hP2
                go_upto_region 27 with (fail)
                obtain ⟨qq, hqq⟩ : ∃ q, (yl && yn) = q := ⟨_, rfl⟩
                have HQQ := Lib.hid hqq
                rw [hqq]
                clear hqq
                go_cut [5] from 174 to 180 (fun r wx => r = .bool (qq && (z1 && z2)) ∧ wx = u5)
                case first =>
                  clear HA HR1 HR2 HQQ
                  cases qq <;> cases z1 <;> cases z2
                  all_goals
                    go_wp2_with fail
                    go_meet
                    exact ⟨rfl, rfl⟩
                case rest =>
                  obtain ⟨rfl, hwc⟩ := hcut
                  have hwc' := hwc.symm
                  clear hwc
                  subst hwc'
                  have ha1 : Apt A6 B1 := Apt.elder HO6.out HP1.out (by have := HBWI.out.size; omega)
                  have ha2 : Apt A6 B2 := Apt.elder HO6.out HQ2.out (by have := HD2.out.size; omega)
                  have hb5 : v3.heap.size ≤ u5.heap.size := by have := HB.out.size; have := HD3.out.size; omega
                  have HA1 := Lib.hid ha1; have HA2 := Lib.hid ha2
                  clear ha1 ha2
                  go_wp2_with (first
                    | (at_builtin; refine wpList_appN (o := ⟨some 183, _, _, _, _, _⟩) E23 rfl rfl rfl HQ6.out rfl HQ1.out.lies (by rw [bv_length, Nat.mul_one]) (bv_one _) (by unfold maxLen; omega) (by omega) hb5 ?_; intro A7 c7 u7 hO7 hG7 hB7 hM7; have hs7 := hB7.size; have HL2 := Lib.hid (HQ6.out.keepN HQ2.out hG7 HA2.out).lies; have HO7 := Lib.hid hO7; have HB7 := Lib.hid hB7; clear hO7 hG7 hB7 hM7)
                    | (at_builtin; refine wpList_appN (o := ⟨some 185, _, _, _, _, _⟩) E23 rfl rfl rfl HO7.out rfl HL2.out (by rw [bv_length, Nat.mul_one]) (bv_one _) (by unfold maxLen; omega) (by omega) (by omega) ?_; intro A8 c8 u8' hO8 hG8 hB8 hM8))
                  have hbv : bv nb ++ bv p1 ++ bv p2 = bv (nb ++ (p1 ++ p2)) := by simp [bv_append]
                  have hln : nb.length + p1.length + p2.length = (nb ++ (p1 ++ p2)).length := by simp; omega
                  have HF : Hid (Yes (yn && (z1 && z2)) (nb ++ (p1 ++ p2)) (allB pnB' (x.nodes.take (j + 1)))) := Lib.hid (by rw [allB_take pnB' HS.out]; exact Yes.seq HA.out (Yes.seq HR1.out HR2.out))
                  rw [hbv, hln] at hO8
                  have HLN := Lib.hid hln; have HO8 := Lib.hid hO8
                  have HBD : Hid (nb.length + p1.length + p2.length ≤ U2 (j + 1)) := Lib.hid (by show _ ≤ _; rw [HST.out]; omega)
                  clear hbv hln hO8
                  go_roundw
                  case rel => exact ⟨j + 1, nb ++ (p1 ++ p2), yn && (z1 && z2), A8, c8, by omega, by go_num, by rw [← HQQ.out, Bool.and_assoc], by rw [HLN.out], HO8.out, by rw [← HLN.out]; exact HBD.out, HF, (((nx HB.out HD3.out).trans HB7.out).trans hB8)⟩
                  case measure => simp [intOf]; omega
              · obtain rfl : j = nn := by omega
                have HT : Hid (x.nodes.take j = x.nodes) := Lib.hid (by rw [← HLn.out, List.take_length])
                rw [HT.out] at HA
                have hz5 := HZ.out.2.2.2.2
                have HV := Lib.hid (rwvec_ok A6 c6 nb true wr hO6.sl (by show _ < _; omega) (some nb) (Lib.hid rfl))
                have HW9 := Lib.hid (HO9.out.below hB); have HBW := Lib.hid (nx HB9.out hB)
                have hsB := hB.size
                clear hB hO6 HT
                go_wp2_with fail
                refine HV.out.mono ?_
                rintro e u2 ⟨b5, y5, B5, f5, rfl, hO5, hl5', hr5, hD5⟩
                have hs2 := hD5.size
                have HR5 : Hid (Yes y5 b5 (vecB nb)) := Lib.hid hr5
                have HYF := Lib.hid (Yes.seq HYS2.out (Yes.vec HA.out HR5.out))
                have HP9 := Lib.hid (HW9.out.below hD5); have HP5 := Lib.hid hO5; have HBF := Lib.hid (nx HBW.out hD5)
                have hfin : ∀ (w' : World) (A' : Option Addr) (c' : Nat) (v : Bool), Ow w' (g + 1 + 1) 5 1 A' (oc.length + b5.length) c' (bv oc ++ bv b5) → Below (g + 1 + 1) u2 w' → v = (yl && (yn && y5)) →
                    PEnd (commitB x) 536870912 w (.returned (.tuple #[.slice A' (oc.length + b5.length) c', .bool v])) w' := fun w' A' c' v h1 h2 h3 => by
                  rw [← bv_append] at h1
                  have hln : oc.length + b5.length = (oc ++ b5).length := by simp
                  rw [hln] at h1 ⊢
                  refine ⟨oc ++ b5, v, A', c', rfl, h1.mono (by omega), by rw [← hln]; omega, ?_, nx HB0.out (HBF.out.trans (h2.mono (by have := HZB.out; omega)))⟩
                  have := HYF.out
                  rw [← h3] at this
                  rw [← show commitB x = seqB (seqB (seqB (nsI [x.by_, x.epoch]) (seqB ((allB propB x.props).bind vecB) (nsI [x.sig, x.tag]))) (seqB (nsI [1]) (nodeB x.leaf))) ((allB pnB' x.nodes).bind vecB) by
                    rw [seqB_assoc, seqB_assoc, seqB_assoc, seqB_assoc]; unfold commitB; rw [if_pos (by rw [HH.out])]; rfl] at this
                  exact this
                have HFIN := Lib.hid hfin
                obtain ⟨qq, hqq⟩ : ∃ q, (yl && yn) = q := ⟨_, rfl⟩
                have HQQ : Hid (∀ b, (yl && (yn && b)) = (qq && b)) := Lib.hid (fun b => by rw [← hqq, Bool.and_assoc])
                rw [hqq]
                clear hfin hqq hO5 hr5 hD5 HA HYF HR5 HYS2 HV
                cases qq <;> cases y5
                all_goals
                  go_wp2_with (at_builtin; refine wpList_appN (o := ⟨some 194, _, _, _, _, _⟩) E23 rfl rfl rfl HP9.out rfl HP5.out.lies (by rw [bv_length, Nat.mul_one]) (bv_one _) (by unfold maxLen; omega) (by omega) (by omega) ?_; intro A7 c7 u7 hO7 hG7 hB7 hM7)
                  go_ret2
                  exact HFIN.out _ _ _ _ hO7 hB7 (HQQ.out _).symm
        · have hh' : x.has = false := by simpa using hh
          have HH := Lib.hid hh'
          rw [hh'] at a3
          clear hh hh'
          have m0 := M0.out
          have a4 := cell_of m0 4; have a5 := cell_of m0 5; have a6 := cell_of m0 6; have a7 := cell_of m0 7; have a8 := cell_of m0 8; have a9 := cell_of m0 9; have a10 := cell_of m0 10
          clear m0
          have hBd : Below wb.heap.size wb w8.drew := below_drewN HB8.out 1
          have hOd : Ow w8.drew (g + 1 + 1) 5 1 A4 ob.length c4 (bv ob) := HO8.out.drew
          have hS : ∀ w', Below wb.heap.size wb w' → (w'.cell? ⟨g, 4, none⟩ = some (.int .i64 x.leaf.k) ∧ w'.cell? ⟨g, 5, none⟩ = some (.int .i64 x.leaf.id) ∧ w'.cell? ⟨g, 6, none⟩ = some (.int .i64 x.leaf.enc) ∧ w'.cell? ⟨g, 7, none⟩ = some (.int .i64 x.leaf.sig) ∧ w'.cell? ⟨g, 8, none⟩ = some (.int .i64 x.leaf.hash) ∧ w'.cell? ⟨g, 9, none⟩ = some (.slice lA ln lc) ∧ w'.cell? ⟨g, 10, none⟩ = some (.slice nA nn nc)) := fun w' hb => by
            have m0 := (hb.block g (by have := HZB.out; omega)).trans K0.out
            exact ⟨cell_of m0 4, cell_of m0 5, cell_of m0 6, cell_of m0 7, cell_of m0 8, cell_of m0 9, cell_of m0 10⟩
          have hfin : ∀ (w' : World) (A' : Option Addr) (c' : Nat) (v : Bool), Ow w' (g + 1 + 1) 5 1 A' (ob.length + 1) c' (bv ob ++ [.int .u8 0]) → Below wb.heap.size wb w' → v = (yk && (decide (zeroN x.leaf) && decide (nn = 0))) →
              PEnd (commitB x) 536870912 w (.returned (.tuple #[.slice A' (ob.length + 1) c', .bool v])) w' := fun w' A' c' v h1 h2 h3 => by
            have hbv : bv ob ++ [Value.int .u8 0] = bv (ob ++ [0]) := (bv_append ob [0]).symm
            rw [hbv] at h1
            have hln : ob.length + 1 = (ob ++ [0]).length := by simp
            rw [hln] at h1 ⊢
            refine ⟨ob ++ [0], v, A', c', rfl, h1.mono (by omega), by rw [← hln]; omega, ?_, nx HB0.out h2⟩
            have ht : Yes (decide (zeroN x.leaf) && decide (nn = 0)) [0] (if zeroN x.leaf ∧ x.nodes = [] then nsI [0] else none) := by
              unfold Yes
              have hn : (nn = 0) ↔ (x.nodes = []) := by rw [← HLn.out]; exact List.length_eq_zero_iff
              by_cases p : zeroN x.leaf
              · by_cases q : x.nodes = []
                · rw [if_pos ⟨p, q⟩, decide_eq_true p, decide_eq_true (hn.2 q)]; rfl
                · rw [if_neg (fun e => q e.2), decide_eq_false (fun e => q (hn.1 e))]; simp
              · rw [if_neg (fun e => p e.1), decide_eq_false p]; rfl
            have := Yes.seq HYS.out ht
            rw [← h3] at this
            rw [← show commitB x = seqB (seqB (nsI [x.by_, x.epoch]) (seqB ((allB propB x.props).bind vecB) (nsI [x.sig, x.tag]))) (if zeroN x.leaf ∧ x.nodes = [] then nsI [0] else none) by
              rw [seqB_assoc, seqB_assoc]; unfold commitB; rw [if_neg (by rw [HH.out]; decide)]] at this
            exact this
          have HFIN := Lib.hid hfin
          clear hfin
          cases yk
          · clear hS
            go_wp2_with fail
            first
              | (go_region_law ((refine step_appN (t := 23) (s := .tmp 117) (x := .tmp 118) (n := ob.length) (c0 := c4) (m := 1) (c := 1) E23 rfl rfl (by simp [Act.eval]) (hOd.alloc (.cells #[.int .u8 0] 5)) (by simp [Act.eval]) (lies_cells w8.drew #[.int .u8 0] 5) rfl (bv_one [0]) (by unfold maxLen; omega) (by omega) (by simp; omega) ?_; intro A9 c9 v9 hO9 hG9 hB9; have hB9w := (nxa hBd (.cells #[.int .u8 0] 5)).trans (hB9.mono (by have := HZB.out; omega)))))
              | fail
            all_goals
              go_wp2_with fail
              go_ret2
              exact HFIN.out _ _ _ _ hO9 hB9w rfl
          · by_cases hz0 : zeroN x.leaf
            · have HZE : Hid (decide (zeroN x.leaf) = true) := Lib.hid (decide_eq_true hz0)
              have HZ1 := Lib.hid (zero_any lA ln lc x.leaf w8.drew (HUN.out.below hBd))
              have HZ2 := Lib.hid (zero_any lA ln lc x.leaf (w8.drew.alloc (.cells #[.int .u8 0] 5)) (HUN.out.below (nxa hBd _)))
              rw [HZE.out] at HZ1 HZ2 HFIN
              unfold nv at HZ1 HZ2
              clear hz0
              by_cases hn0 : nn = 0
              · have t5 : ((nn : Int) == 0) = true := by rw [beq_iff_eq]; omega
                rw [decide_eq_true hn0] at HFIN
                have HN0 := Lib.hid hn0
                clear hn0
                go_wp2_with fail
                first
                  | (go_region_held3 (fun w' => w'.cell? ⟨g, 4, none⟩ = some (.int .i64 x.leaf.k) ∧ w'.cell? ⟨g, 5, none⟩ = some (.int .i64 x.leaf.id) ∧ w'.cell? ⟨g, 6, none⟩ = some (.int .i64 x.leaf.enc) ∧ w'.cell? ⟨g, 7, none⟩ = some (.int .i64 x.leaf.sig) ∧ w'.cell? ⟨g, 8, none⟩ = some (.int .i64 x.leaf.hash) ∧ w'.cell? ⟨g, 9, none⟩ = some (.slice lA ln lc) ∧ w'.cell? ⟨g, 10, none⟩ = some (.slice nA nn nc)) (first | exact hS _ (by assumption) | exact hS _ (nxa (by assumption) _)) (first
                    | (go_at_call 111; (with_reducible refine HZ1.out.mono ?_); rintro e v1 ⟨rfl, hC1⟩; have hOc1 := hOd.below hC1; have hBc := nx hBd hC1; have hsc := hC1.size)
                    | (go_at_call 111; (with_reducible refine HZ2.out.mono ?_); rintro e v1 ⟨rfl, hC2⟩; have hBc := nx (nxa hBd (.cells #[.int .u8 0] 5)) hC2; have hsc := hC2.size)
                    | (go_at_call 111; have hz3 := zero_any lA ln lc x.leaf v9 (HUN.out.below hB9w); rw [HZE.out] at hz3; unfold nv at hz3; (with_reducible refine hz3.mono ?_); rintro e v3 ⟨rfl, hC3⟩; have hOf := hO9.below hC3; have hBf := nx hB9w hC3)
                    | (refine step_appN (t := 23) (s := .tmp 117) (x := .tmp 118) (n := ob.length) (c0 := c4) (m := 1) (c := 1) E23 rfl rfl (by simp [Act.eval]) (hOc1.alloc (.cells #[.int .u8 0] 5)) (by simp [Act.eval]) (lies_cells v1 #[.int .u8 0] 5) rfl (bv_one [0]) (by unfold maxLen; omega) (by omega) (by simp; omega) ?_; intro A9 c9 v9 hO9 hG9 hB9; have hB9w := (nxa hBc (.cells #[.int .u8 0] 5)).trans (hB9.mono (by have := HZB.out; omega)))
                    | (refine step_appN (t := 23) (s := .tmp 117) (x := .tmp 118) (n := ob.length) (c0 := c4) (m := 1) (c := 1) E23 rfl rfl (by simp [Act.eval]) ((hOd.alloc (.cells #[.int .u8 0] 5)).below hC2) (by simp [Act.eval]) ((lies_cells w8.drew #[.int .u8 0] 5).below hC2) rfl (bv_one [0]) (by unfold maxLen; omega) (by omega) (by simp; omega) ?_; intro A9 c9 v9 hO9 hG9 hB9; have hB9w := hBc.trans (hB9.mono (by have := HZB.out; omega)))
                    | (refine step_appN (t := 23) (s := .tmp 117) (x := .tmp 118) (n := ob.length) (c0 := c4) (m := 1) (c := 1) E23 rfl rfl (by simp [Act.eval]) (hOd.alloc (.cells #[.int .u8 0] 5)) (by simp [Act.eval]) (lies_cells w8.drew #[.int .u8 0] 5) rfl (bv_one [0]) (by unfold maxLen; omega) (by omega) (by simp; omega) ?_; intro A9 c9 v9 hO9 hG9 hB9; have hB9w := (nxa hBd (.cells #[.int .u8 0] 5)).trans (hB9.mono (by have := HZB.out; omega)))))
                  | fail
                all_goals
                  go_wp2_with fail
                  go_ret2
                  first
                    | exact HFIN.out _ _ _ _ hOf hBf rfl
                    | exact HFIN.out _ _ _ _ hO9 hB9w rfl
              · have t5 : ((nn : Int) == 0) = false := by rw [beq_eq_false_iff_ne]; omega
                rw [decide_eq_false hn0] at HFIN
                clear hn0
                go_wp2_with fail
                first
                  | (go_region_held3 (fun w' => w'.cell? ⟨g, 4, none⟩ = some (.int .i64 x.leaf.k) ∧ w'.cell? ⟨g, 5, none⟩ = some (.int .i64 x.leaf.id) ∧ w'.cell? ⟨g, 6, none⟩ = some (.int .i64 x.leaf.enc) ∧ w'.cell? ⟨g, 7, none⟩ = some (.int .i64 x.leaf.sig) ∧ w'.cell? ⟨g, 8, none⟩ = some (.int .i64 x.leaf.hash) ∧ w'.cell? ⟨g, 9, none⟩ = some (.slice lA ln lc) ∧ w'.cell? ⟨g, 10, none⟩ = some (.slice nA nn nc)) (first | exact hS _ (by assumption) | exact hS _ (nxa (by assumption) _)) (first
                    | (go_at_call 111; (with_reducible refine HZ1.out.mono ?_); rintro e v1 ⟨rfl, hC1⟩; have hOc1 := hOd.below hC1; have hBc := nx hBd hC1; have hsc := hC1.size)
                    | (go_at_call 111; (with_reducible refine HZ2.out.mono ?_); rintro e v1 ⟨rfl, hC2⟩; have hBc := nx (nxa hBd (.cells #[.int .u8 0] 5)) hC2; have hsc := hC2.size)
                    | (go_at_call 111; have hz3 := zero_any lA ln lc x.leaf v9 (HUN.out.below hB9w); rw [HZE.out] at hz3; unfold nv at hz3; (with_reducible refine hz3.mono ?_); rintro e v3 ⟨rfl, hC3⟩; have hOf := hO9.below hC3; have hBf := nx hB9w hC3)
                    | (refine step_appN (t := 23) (s := .tmp 117) (x := .tmp 118) (n := ob.length) (c0 := c4) (m := 1) (c := 1) E23 rfl rfl (by simp [Act.eval]) (hOc1.alloc (.cells #[.int .u8 0] 5)) (by simp [Act.eval]) (lies_cells v1 #[.int .u8 0] 5) rfl (bv_one [0]) (by unfold maxLen; omega) (by omega) (by simp; omega) ?_; intro A9 c9 v9 hO9 hG9 hB9; have hB9w := (nxa hBc (.cells #[.int .u8 0] 5)).trans (hB9.mono (by have := HZB.out; omega)))
                    | (refine step_appN (t := 23) (s := .tmp 117) (x := .tmp 118) (n := ob.length) (c0 := c4) (m := 1) (c := 1) E23 rfl rfl (by simp [Act.eval]) ((hOd.alloc (.cells #[.int .u8 0] 5)).below hC2) (by simp [Act.eval]) ((lies_cells w8.drew #[.int .u8 0] 5).below hC2) rfl (bv_one [0]) (by unfold maxLen; omega) (by omega) (by simp; omega) ?_; intro A9 c9 v9 hO9 hG9 hB9; have hB9w := hBc.trans (hB9.mono (by have := HZB.out; omega)))
                    | (refine step_appN (t := 23) (s := .tmp 117) (x := .tmp 118) (n := ob.length) (c0 := c4) (m := 1) (c := 1) E23 rfl rfl (by simp [Act.eval]) (hOd.alloc (.cells #[.int .u8 0] 5)) (by simp [Act.eval]) (lies_cells w8.drew #[.int .u8 0] 5) rfl (bv_one [0]) (by unfold maxLen; omega) (by omega) (by simp; omega) ?_; intro A9 c9 v9 hO9 hG9 hB9; have hB9w := (nxa hBd (.cells #[.int .u8 0] 5)).trans (hB9.mono (by have := HZB.out; omega)))))
                  | fail
                all_goals
                  go_wp2_with fail
                  go_ret2
                  first
                    | exact HFIN.out _ _ _ _ hOf hBf rfl
                    | exact HFIN.out _ _ _ _ hO9 hB9w rfl
            · have HZE : Hid (decide (zeroN x.leaf) = false) := Lib.hid (decide_eq_false hz0)
              have HZ1 := Lib.hid (zero_any lA ln lc x.leaf w8.drew (HUN.out.below hBd))
              have HZ2 := Lib.hid (zero_any lA ln lc x.leaf (w8.drew.alloc (.cells #[.int .u8 0] 5)) (HUN.out.below (nxa hBd _)))
              rw [HZE.out] at HZ1 HZ2 HFIN
              unfold nv at HZ1 HZ2
              clear hz0
              go_wp2_with fail
              obtain ⟨f4, f5, f6, f7, f8, f9, _⟩ := hS _ hBd
              obtain ⟨e4, e5, e6, e7, e8, e9, _⟩ := hS _ (nxa hBd (.cells #[.int .u8 0] 5))
              first
                | (go_region_law (first
                  | (go_simp; go_at_call 111; (with_reducible refine HZ1.out.mono ?_); rintro e v1 ⟨rfl, hC1⟩; have hOc1 := hOd.below hC1; have hBc := nx hBd hC1; have hsc := hC1.size)
                  | (go_simp; go_at_call 111; (with_reducible refine HZ2.out.mono ?_); rintro e v1 ⟨rfl, hC2⟩; have hBc := nx (nxa hBd (.cells #[.int .u8 0] 5)) hC2; have hsc := hC2.size)
                  | (go_simp; go_at_call 111; have hz3 := zero_any lA ln lc x.leaf v9 (HUN.out.below hB9w); rw [HZE.out] at hz3; unfold nv at hz3; (with_reducible refine hz3.mono ?_); rintro e v3 ⟨rfl, hC3⟩; have hOf := hO9.below hC3; have hBf := nx hB9w hC3)
                  | (refine step_appN (t := 23) (s := .tmp 117) (x := .tmp 118) (n := ob.length) (c0 := c4) (m := 1) (c := 1) E23 rfl rfl (by simp [Act.eval]) (hOc1.alloc (.cells #[.int .u8 0] 5)) (by simp [Act.eval]) (lies_cells v1 #[.int .u8 0] 5) rfl (bv_one [0]) (by unfold maxLen; omega) (by omega) (by simp; omega) ?_; intro A9 c9 v9 hO9 hG9 hB9; have hB9w := (nxa hBc (.cells #[.int .u8 0] 5)).trans (hB9.mono (by have := HZB.out; omega)))
                  | (refine step_appN (t := 23) (s := .tmp 117) (x := .tmp 118) (n := ob.length) (c0 := c4) (m := 1) (c := 1) E23 rfl rfl (by simp [Act.eval]) ((hOd.alloc (.cells #[.int .u8 0] 5)).below hC2) (by simp [Act.eval]) ((lies_cells w8.drew #[.int .u8 0] 5).below hC2) rfl (bv_one [0]) (by unfold maxLen; omega) (by omega) (by simp; omega) ?_; intro A9 c9 v9 hO9 hG9 hB9; have hB9w := hBc.trans (hB9.mono (by have := HZB.out; omega)))
                  | (refine step_appN (t := 23) (s := .tmp 117) (x := .tmp 118) (n := ob.length) (c0 := c4) (m := 1) (c := 1) E23 rfl rfl (by simp [Act.eval]) (hOd.alloc (.cells #[.int .u8 0] 5)) (by simp [Act.eval]) (lies_cells w8.drew #[.int .u8 0] 5) rfl (bv_one [0]) (by unfold maxLen; omega) (by omega) (by simp; omega) ?_; intro A9 c9 v9 hO9 hG9 hB9; have hB9w := (nxa hBd (.cells #[.int .u8 0] 5)).trans (hB9.mono (by have := HZB.out; omega)); obtain ⟨n4, n5, n6, n7, n8, n9, _⟩ := hS _ hB9w)))
                | fail
              all_goals
                go_wp2_with fail
                go_ret2
                first
                  | exact HFIN.out _ _ _ _ hOf hBf rfl
                  | exact HFIN.out _ _ _ _ hO9 hB9w rfl
set_option maxRecDepth 100000 in
set_option maxHeartbeats 4000000 in
/-- the reference's Commit -/
theorem rcommitW_ok (x : CM) (P : CP) (w : World) (hM : CMem w x P) (hz : Hid (szC x ≤ 1048576)) :
    Calls Try.prog 48 #[cv x P] w (CEnd (commitB x) w) := by
  have hBa : Below w.heap.size w (w.alloc (.cells (cc x P) 72)) := nxa (Below.refl _ _) _
  have H := Lib.hid (rwcommit_ok x P (w.alloc (.cells (cc x P) 72)) (hM.below hBa) hz)
  have HB := Lib.hid hBa
  unfold cv at H ⊢
  clear hBa hM
  go_enter Try.func48, Try.ntmps48
  go_wp2_with fail
  refine H.out.mono ?_
  rintro e w1 ⟨b, yes, A2, c2, rfl, hO, hl, ho, hB⟩
  have HT := Lib.hid (told_ok A2 b c2 yes w1)
  have HE := Lib.hid (CEnd.of (hO.mono HB.out.size) ho (nx HB.out hB))
  clear hO ho hB hl
  cases yes
  · go_wp2_with (go_at_call 63; refine HT.out.mono ?_; rintro e w2 ⟨rfl, rfl⟩)
    go_ret2
    exact HE.out
  · go_wp2_with (go_at_call 63; refine HT.out.mono ?_; rintro e w2 ⟨rfl, rfl⟩)
    go_ret2
    exact HE.out
end Go.Proofs.Ytjebmmmjjiomfaa
