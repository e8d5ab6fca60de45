/- Rows of things of many cells, that a reader lays down; a round of the tree's reader. -/
import Derived.Test.YtjebmmmjjiomfaaCRNode
import Derived.Deep.RegionLaw
namespace Go.Proofs.Ytjebmmmjjiomfaa
open Go.RowKit

theorem step_app6 {P : Program} {w : World} {ops : Array Oper} {o : Oper} {a : Act} {K : Act → World → Prop} {Q : Exit → Act → World → Prop} {X : Prop} {s x : Operand} {t : TypeId}
    {base : Nat} {e : TypeId} {z : Value} {size bytes : Nat} (E : Elem P t e z size bytes) (hg : o.guard = none)
    (ho : o.op = .call { callee := .builtin .append, args := #[s, x], argTypes := #[t, t] })
    {A0 : Option Addr} {n c0 : Nat} {xs : List Value} (hs : a.eval s = .slice A0 n c0) (hown : Ow w base e size A0 n c0 xs)
    {A : Option Addr} {m c : Nat} {news : List Value} (hx : a.eval x = .slice A m c) (hl : Lies w A news) (hm : news.length = m * size) (h1 : ∀ u ∈ news, u.oneCell' = true)
    (h63 : n + m ≤ maxLen) (hbytes : (n + m) * bytes ≤ 140737488355328) (hbase : base ≤ w.heap.size)
    (h : ∀ A' c' w', Ow w' base e size A' (n + m) c' (xs ++ news) → w.grownBy w' (Value.slice A0 n c0).ownBlock → Below base w w' → K (a.put o.dst (.slice A' (n + m) c')) w') :
    if Region.wanted o (yielded ops a.tmps) = true then Oper.wp P o a w K Q else X := by
  have hw : Region.wanted o (yielded ops a.tmps) = true := by simp [Region.wanted, hg]
  rw [if_pos hw]
  exact wp_app E ho hs hown hx hl hm h1 h63 hbytes hbase h

/-- things in a row, one behind another -/
def Els {α : Type} (E : World → α → List Value → Prop) (w : World) : List α → List Value → Prop
  | [], cs => cs = []
  | s :: t, cs => ∃ v r, cs = v ++ r ∧ E w s v ∧ Els E w t r
section
variable {α : Type} {E : World → α → List Value → Prop} {w w' : World}
theorem Els.snoc : ∀ {acc : List α} {cs v : List Value} {s : α}, Els E w acc cs → E w s v → Els E w (acc ++ [s]) (cs ++ v)
  | [], cs, v, s, h, k => ⟨v, [], by rw [show cs = [] from h]; simp, k, rfl⟩
  | a :: t, cs, v, s, ⟨u, r, h1, h2, h3⟩, k => ⟨u, r ++ v, by rw [h1, List.append_assoc], h2, h3.snoc k⟩
theorem Els.keep (hk : ∀ s v, E w s v → E w' s v) : ∀ {acc : List α} {cs : List Value}, Els E w acc cs → Els E w' acc cs
  | [], _, h => h
  | _ :: _, _, ⟨u, r, h1, h2, h3⟩ => ⟨u, r, h1, hk _ _ h2, h3.keep hk⟩
theorem Els.get {m : Nat} (hm : ∀ s v, E w s v → v.length = m) : ∀ {acc : List α} {cs : List Value} {k : Nat} {s : α}, Els E w acc cs → acc[k]? = some s → ∃ v, E w s v ∧ ∀ j, j < m → cs[k * m + j]? = v[j]?
  | [], cs, k, s, _, h => by simp at h
  | a :: t, cs, 0, s, ⟨u, r, h1, h2, h3⟩, h => by
    simp at h; subst h
    refine ⟨u, h2, fun j hj => ?_⟩
    rw [h1, Nat.zero_mul, Nat.zero_add, List.getElem?_append_left (by rw [hm _ _ h2]; exact hj)]
  | a :: t, cs, k + 1, s, ⟨u, r, h1, h2, h3⟩, h => by
    obtain ⟨v, h4, h5⟩ := h3.get hm (k := k) (by simpa using h)
    refine ⟨v, h4, fun j hj => ?_⟩
    rw [← h5 j hj, h1, List.getElem?_append_right (by rw [hm _ _ h2, Nat.add_mul]; omega), hm _ _ h2]
    congr 1; rw [Nat.add_mul]; omega
end
theorem Ow.lim {w : World} {base : Nat} {e : TypeId} {size : Nat} {A : Option Addr} {n c : Nat} {xs : List Value} (h : Ow w base e size A n c xs) : n ≤ c ∧ c ≤ maxLen := by
  rcases h.2 with ⟨hv, h0⟩ | ⟨g, cap, cur, hv, _, hg, h1, h2, _⟩
  · injection hv with _ a b; exact ⟨by omega, by rw [b]; exact Nat.zero_le _⟩
  · injection hv with _ a b; exact ⟨by omega, by omega⟩
/-- a node's cells -/
def nl (s : TN) (B : Option Addr) (d : Nat) : List Value := [.int .i64 s.k, .int .i64 s.id, .int .i64 s.enc, .int .i64 s.sig, .int .i64 s.hash, .slice B s.un.length d]
def NE (w : World) (s : TN) (v : List Value) : Prop := ∃ B d, v = nl s B d ∧ UO w B s.un.length d s.un
theorem NE.k3 {w w' : World} (k : K3 w w') (s : TN) (v : List Value) (h : NE w s v) : NE w' s v := by
  obtain ⟨B, d, h1, h2⟩ := h; exact ⟨B, d, h1, h2.k3 k⟩
theorem NE.len (w : World) (s : TN) (v : List Value) (h : NE w s v) : v.length = 6 := by obtain ⟨B, d, rfl, _⟩ := h; rfl
theorem Ts.of {w : World} {base n : Nat} {A : Option Addr} {c : Nat} {cs : List Value} {l : List TN} (hn : l.length = n) (h : Ow w base 67 6 A n c cs) (k : Els NE w l cs) : Ts w A n c l := by
  refine ⟨hn, h.lim.1, h.lim.2, ?_⟩
  by_cases hl : l = []
  · exact .inl hl
  · right
    have hp : 0 < n := by rw [← hn]; exact List.length_pos_iff.2 hl
    obtain ⟨g, rfl, _, _⟩ := h.form hp
    refine ⟨_, rfl, fun i s hs => ?_⟩
    obtain ⟨v, ⟨B, d, rfl, hU⟩, h2⟩ := k.get (m := 6) (NE.len w) hs
    rcases h.lies with e | ⟨ad, e, hc⟩
    · exfalso
      have := h2 0 (by omega)
      rw [e] at this; simp [nl] at this
    · injection e with e
      subst e
      have hcell : ∀ j, j < 6 → w.cell? ⟨g, i * 6 + j, Option.none⟩ = (nl s B d)[j]? := fun j hj => by
        have e1 := h2 j hj
        obtain ⟨u, hu⟩ : ∃ u, (nl s B d)[j]? = some u := ⟨_, List.getElem?_eq_getElem (by simp [nl]; omega)⟩
        rw [hu] at e1 ⊢
        have := hc _ _ e1
        rwa [add_mk, Nat.zero_add] at this
      have hadd : (Addr.mk g 0 Option.none).add (i * 6) = ⟨g, i * 6, Option.none⟩ := by rw [add_mk, Nat.zero_add]
      refine ⟨B, s.un.length, d, ?_⟩
      rw [hadd]
      exact ⟨hcell 0 (by omega), hcell 1 (by omega), hcell 2 (by omega), hcell 3 (by omega), hcell 4 (by omega), hcell 5 (by omega), hU.sl⟩
/-- what a loop carries whose slice lies in a cell -/
def IE {α : Type} (E : World → α → List Value → Prop) (t : TypeId) (m : Nat) (za : Addr) (q : Nat) (acc : List α) (w : World) : Prop :=
  ∃ A c cs, w.cell? za = some (.slice A acc.length c) ∧ w.frozen? za = false ∧ Ow w (q + 1) t m A acc.length c cs ∧ Els E w acc cs
theorem IE.close {α : Type} {f : List UInt8 → Option (α × List UInt8)} {E : World → α → List Value → Prop} {t T : TypeId} {m z off q : Nat} {w1 w2 w4 : World} {acc : List α} {l r : List UInt8} {s : α} {o : Obj} {cs v : List Value} {A A4 : Option Addr} {c c4 : Nat} {u : Value}
    (hq : q + 1 = w1.heap.size) (hzq : z < q) (hK : KX (zq z q) w1 w2) (hR : RD (zo z q) w2 q r) (hE : Els E w2 acc cs) (hs : E w2 s v) (hEk : ∀ a b, K3 a b → ∀ s v, E a s v → E b s v) (hO : Ow w2 (q + 1) t m A acc.length c cs) (ht : t ≠ 3)
    (hO4 : Ow w4 (q + 1) t m A4 (acc.length + 1) c4 (cs ++ v)) (hG4 : (w2.alloc o).grownBy w4 (Value.slice A acc.length c).ownBlock) (hB4 : Below (q + 1) (w2.alloc o) w4) (hc4 : w4.cell? ⟨z, off, none⟩ = some u) (hz4 : w4.frozen? ⟨z, off, none⟩ = false)
    (hT : IsT w2 z T) (hT3 : T ≠ 3) (f1 : f l = some (s, r)) :
    Round f (fun q acc w => IE E t m ⟨z, off, none⟩ q acc w ∧ IsT w z T) z q w1 acc l (.returned (.tuple #[])) (w4.setCell ⟨z, off, none⟩ (.slice A4 (acc.length + 1) c4)) := by
  have hBa : Below w2.heap.size w2 (w2.alloc o) := nxa (Below.refl _ _) _
  have hT4 : IsT w4 z T := (hT.kx (X := fun _ => False) (KX.of hBa) (fun e => e)).kx (KX.ofB hB4) (by omega)
  have hK3 : K3 w2 (w4.setCell ⟨z, off, none⟩ (.slice A4 (acc.length + 1) c4)) := (((K3.refl w2).alloc o).grown (hO.alloc o) ht hG4).set (q := ⟨z, off, none⟩) hT4 hT3 _
  have hKF : KX (fun b => b = z ∨ q + 1 ≤ b) w2 (w4.setCell ⟨z, off, none⟩ (.slice A4 (acc.length + 1) c4)) := (((KX.of hBa).trans ((KX.ofB hB4).mono (fun i e => .inr e))).set ⟨z, off, none⟩ _ (.inl (.inl rfl)))
  refine .inl ⟨s, r, f1, rfl, ?_, ⟨⟨A4, c4, cs ++ v, ?_, ?_, ?_, ?_⟩, hT4.set _ _⟩, ?_⟩
  · exact hR.kx hKF (fun i e _ => by rcases e with e | e; exact .inl e; exact .inr (by omega)) (fun e => by rcases e with e | e <;> omega)
  · rw [List.length_append]; exact World.cell?_setCell_same _ _ _ hc4
  · rw [World.frozen?_setCell]; exact hz4
  · rw [List.length_append]
    exact hO4.kx ((KX.refl (· = z) w4).set ⟨z, off, none⟩ _ (.inl rfl)) (fun i e => by have := hO4.inb e; omega)
  · exact (hE.keep (hEk _ _ hK3)).snoc (hEk _ _ hK3 _ _ hs)
  · exact hK.next hKF (fun i e => by rcases e with e | e; exact .inl (.inl e); exact .inr (by omega))
theorem E49 : Elem Try.prog 49 67 (.agg #[.int .i64 0, .int .i64 0, .int .i64 0, .int .i64 0, .int .i64 0, .slice none 0 0]) 6 64 := ⟨Try.underlying49, by kernel_rfl, rfl, by omega⟩
theorem nl_one (s : TN) (B : Option Addr) (d : Nat) : ∀ u ∈ nl s B d, u.oneCell' = true := by
  intro u hu
  simp [nl] at hu
  rcases hu with rfl | rfl | rfl | rfl | rfl | rfl <;> rfl
set_option maxRecDepth 100000 in
set_option maxHeartbeats 4000000 in
theorem rtree1_ok (z q : Nat) (acc : List TN) (l : List UInt8) (w1 wr : World) (hq : q + 1 = w1.heap.size) (hzq : z < q) (hK : KX (zq z q) w1 wr) (hR : RD (zo z q) wr q l) (hz : IsT wr z 49) (hI : IE NE 67 6 ⟨z, 0, none⟩ q acc wr) (hN : Hid (acc.length + l.length ≤ 1073741824)) :
    Calls Try.prog 103 #[.pointer (some ⟨q, 0, none⟩), .pointer (some ⟨z, 0, none⟩)] wr (Round rNode (fun q acc w => IE NE 67 6 ⟨z, 0, none⟩ q acc w ∧ IsT w z 49) z q w1 acc l) := by
  have hbit := hR.bit
  obtain ⟨A, c, cs, c1, z1, hO, hE⟩ := hI
  have hTq : IsT wr q 132 := by obtain ⟨_, _, _, _, _, h⟩ := hR; exact h
  have HC := Lib.hid (rnode_ok q (zo z q) l wr.drew hR.drew (.inr (Nat.le_refl _)) (Lib.hid (by have := hN.out; omega)))
  have HO := Lib.hid hO; have HE := Lib.hid hE; have HK := Lib.hid hK; have HTQ := Lib.hid hTq; have HZT := Lib.hid hz
  have hzw : z < wr.heap.size := World.block_lt_of_cell? _ _ c1
  have c1d : wr.drew.cell? ⟨z, 0, none⟩ = some (.slice A acc.length c) := c1
  have HC1 := Lib.hid c1d; have HZ1 := Lib.hid z1
  clear hO hE hK hTq hR hz
  go_enter Try.func103, Try.ntmps103
  go_wp2_with fail
  have hOf : ∀ w2, KX (· = q) wr.drew w2 → Ow w2 (q + 1) 67 6 A acc.length c cs := fun w2 f => HO.out.drew.kx f (fun i e => by have := HO.out.inb e; omega)
  have hcl : ∀ w2, KX (· = q) wr.drew w2 → w2.cell? ⟨z, 0, none⟩ = some (.slice A acc.length c) := fun w2 f => f.cell HC1.out (by show z ≠ q; omega)
  have hb1 : acc.length + 1 ≤ maxLen := by have := hN.out; unfold maxLen; omega
  have hb2 : (acc.length + 1) * 64 ≤ 140737488355328 := by have := hN.out; omega
  have hb3 : ∀ w2, KX (· = q) wr.drew w2 → ∀ o, q + 1 ≤ (w2.alloc o).heap.size := fun w2 f o => by have h1 := f.size; have h2 : wr.drew.heap.size = wr.heap.size := rfl; simp; omega
  have hcf : ∀ w2, KX (· = q) wr.drew w2 → ∀ o w4, Below (q + 1) (w2.alloc o) w4 → w4.cell? ⟨z, 0, none⟩ = some (.slice A acc.length c) := fun w2 f o w4 hB =>
    (hB.cell (p := ⟨z, 0, none⟩) (show z < q + 1 by omega)).trans ((KX.of (X := fun _ => False) (nxa (Below.refl _ w2) o)).cell (hcl w2 f) (fun e => e))
  have hzf : ∀ w2, KX (· = q) wr.drew w2 → ∀ o w4, Below (q + 1) (w2.alloc o) w4 → w4.frozen? ⟨z, 0, none⟩ = false := fun w2 f o w4 hB =>
    (hB.frozen (p := ⟨z, 0, none⟩) (show z < q + 1 by omega)).trans ((KX.of (X := fun _ => False) (nxa (Below.refl _ w2) o)).frz (f.frz (q := ⟨z, 0, none⟩) HZ1.out (by show z ≠ q; omega) hzw) (fun e => e) (World.block_lt_of_cell? _ _ (hcl w2 f)))
  have hca : ∀ w2, KX (· = q) wr.drew w2 → ∀ o, (w2.alloc o).cell? ⟨z, 0, none⟩ = some (.slice A acc.length c) := fun w2 f o =>
    (KX.of (X := fun _ => False) (nxa (Below.refl _ w2) o)).cell (hcl w2 f) (fun e => e)
  have hpan : ∀ (tm : Array Value) w2, rNode l = none → KX (· = q) wr.drew w2 → bodyPost Try.prog Try.f103 (Round rNode (fun q acc w => IE NE 67 6 ⟨z, 0, none⟩ q acc w ∧ IsT w z 49) z q w1 acc l) (Exit.panic [badE]) { tmps := tm, defers := [] } w2 := fun tm w2 f1 f3 => by
    simp [bodyPost]
    exact .inr ⟨f1, rfl, HK.out.drew.next f3 (fun i e => .inl (.inr e))⟩
  go_region_law (first
    | (refine step_app6 (t := 49) (n := acc.length) (m := 1) (c := 1) E49 rfl rfl (by simp [Act.eval]) ((hOf w2 f5).alloc (.cells #[.int .i64 s.k, .int .i64 s.id, .int .i64 s.enc, .int .i64 s.sig, .int .i64 s.hash, .slice B s.un.length d] 67)) (by simp [Act.eval]) (lies_cells w2 #[.int .i64 s.k, .int .i64 s.id, .int .i64 s.enc, .int .i64 s.sig, .int .i64 s.hash, .slice B s.un.length d] 67) rfl (nl_one s B d) hb1 hb2 (hb3 w2 f5 _) ?_; intro A4 c4 w4 hO4 hG4 hB4; have hc4 := hcf w2 f5 _ w4 hB4; have hz4 := hzf w2 f5 _ w4 hB4)
    | (go_simp; go_at_call 84; refine HC.out.mono ?_; rintro e w2 (⟨s, r, v, f1, rfl, ⟨B, d, rfl, hU⟩, f4, f5⟩ | ⟨f1, rfl, f3⟩); rotate_left; (focus (exact hpan _ w2 f1 f3)); unfold nv; have hc2 := hcl w2 f5; have hc3 := hca w2 f5 (.cells #[.int .i64 s.k, .int .i64 s.id, .int .i64 s.enc, .int .i64 s.sig, .int .i64 s.hash, .slice B s.un.length d] 67)))
  all_goals (simp +zetaDelta [bodyPost, results, Try.results103])
  all_goals exact IE.close hq hzq (HK.out.drew.next f5 (fun i e => .inl (.inr e))) f4 (HE.out.keep (NE.k3 (K3.kx ((KX.refl (· = q) wr).drew.trans f5) (fun b e => ⟨132, by decide, by subst e; exact HTQ.out⟩)))) ⟨B, d, rfl, hU⟩ (fun _ _ => NE.k3) (hOf w2 f5) (by decide) hO4 hG4 hB4 hc4 hz4 (HZT.out.kx (w := wr.drew) f5 (by omega)) (by decide) f1
end Go.Proofs.Ytjebmmmjjiomfaa
