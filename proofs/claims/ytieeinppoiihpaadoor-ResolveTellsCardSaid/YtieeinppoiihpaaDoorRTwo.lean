/- Appending to one of two rows of the call's own: the other one is kept, and they stay apart. -/
import Derived.Test.YtieeinppoiihpaaDoorRTell
namespace Go.Proofs.YtieeinppoiihpaaDoor
open Go.RowKit

def Apart (A B : Option Addr) : Prop := ∀ a b : Addr, A = some a → B = some b → a.block ≠ b.block
theorem Apart.symm {A B : Option Addr} (h : Apart A B) : Apart B A := fun a b h1 h2 e => h b a h2 h1 e.symm
theorem Apart.none_left (B : Option Addr) : Apart none B := fun a b h => by cases h
theorem run_app_blk {P : Program} (w : World) {base : Nat} {t ty e : TypeId} {z : Value} {bytes : Nat} (E : Elem P t e z 1 bytes)
    {A0 : Option Addr} {n c0 : Nat} {xs : List Value} (hown : Ow w base e 1 A0 n c0 xs) {ad : Addr} {c : Nat} {u : Value} (hu : w.cell? ad = some u) (h1 : u.oneCell' = true)
    (h63 : n + 1 ≤ maxLen) (hbytes : (n + 1) * bytes ≤ 140737488355328) {v' : Value} {w' : World} (hr : (Builtin.append_ #[t, t] ty #[.slice A0 n c0, .slice (some ad) 1 c]).run P w = .ok v' w') :
    v'.ownBlock = (Value.slice A0 n c0).ownBlock ∨ v'.ownBlock = some w.heap.size := by
  obtain ⟨i, hi, hz, hs, hb⟩ := info_parts E.info
  have hnews : ∀ j v, [u][j]? = some v → w.cell? (ad.add j) = some v := fun j v hv => by
    match j, hv with
    | 0, hv => simp at hv; subst hv; have : ad.add 0 = ad := by unfold Addr.add; simp
               rw [this]; exact hu
  have h63' : n + 1 ≤ 9223372036854775807 := by unfold maxLen at h63; omega
  rcases hown.2 with ⟨hv, rfl⟩ | ⟨g, cap, cur, hv, hbg, hg, hnc, hcm, hcs, htake⟩
  · rw [hv] at hr
    rw [run_append_nil (P := P) w t ty e i z E.und hi hz ad 1 c [u] (by rw [hs]; rfl) hnews (by omega) (by omega) (by rw [hb]; omega)] at hr
    injection hr with h1 h2
    exact .inr (by rw [← h1]; rfl)
  · rw [hv] at hr ⊢
    by_cases hroom : n + 1 ≤ cap
    · rw [run_append_room (P := P) w t ty e i E.und hi g n cap cur hg ad 1 c [u] (by rw [hs]; rfl) hnews (fun x hx => by simp at hx; subst hx; exact h1) hroom (by rw [hs, hcs]; simp; omega)] at hr
      injection hr with h1 h2
      exact .inl (by rw [← h1]; rfl)
    · have holds : ∀ j v, xs[j]? = some v → w.cell? ((⟨g, 0, none⟩ : Addr).add j) = some v := World.ownsRow.cells hown (g := g) (by rw [hv]; rfl)
      rw [run_append_grow (P := P) w t ty e i z E.und hi hz ⟨g, 0, none⟩ n cap xs (by rw [hs]; exact hown.1) holds ad 1 c [u] (by rw [hs]; rfl) hnews (by omega) (by omega) (by rw [hb]; exact growslice_fits (by omega) hbytes)] at hr
      injection hr with h1 h2
      exact .inr (by rw [← h1]; rfl)
theorem Apart.of_block {A B : Option Addr} (h : ∀ a b, (Value.slice A 0 0).ownBlock = some a → (Value.slice B 0 0).ownBlock = some b → a ≠ b) : Apart A B := fun a b h1 h2 => by
  subst h1; subst h2; exact h _ _ rfl rfl
theorem own_blk (A : Option Addr) (n c : Nat) : (Value.slice A n c).ownBlock = A.map (·.block) := by cases A <;> rfl
theorem wp_two {P : Program} {w : World} {o : Oper} {a : Act} {K : Act → World → Prop} {Q : Exit → Act → World → Prop} {s x : Operand} {t : TypeId}
    {base : Nat} {e : TypeId} {z : Value} {bytes : Nat} (E : Elem P t e z 1 bytes)
    (ho : o.op = .call { callee := .builtin .append, args := #[s, x], argTypes := #[t, t] })
    {A0 : Option Addr} {n c0 : Nat} {xs : List Value} (hs : a.eval s = .slice A0 n c0) (hown : Ow w base e 1 A0 n c0 xs)
    {B : Option Addr} {m d : Nat} {ys : List Value} (hB : Ow w base e 1 B m d ys) (hap : Apart A0 B)
    {ad : Addr} {c : Nat} {u : Value} (hx : a.eval x = .slice (some ad) 1 c) (hu : w.cell? ad = some u) (h1 : u.oneCell' = true)
    (h63 : n + 1 ≤ maxLen) (hbytes : (n + 1) * bytes ≤ 140737488355328) (hbase : base ≤ w.heap.size)
    (h : ∀ A' c' w', Ow w' base e 1 A' (n + 1) c' (xs ++ [u]) → Ow w' base e 1 B m d ys → Apart A' B → w.grownBy w' (Value.slice A0 n c0).ownBlock → Below base w w' → K (a.put o.dst (.slice A' (n + 1) c')) w') : o.wp P a w K Q := by
  have hl : Lies w (some ad) [u] := .inr ⟨ad, rfl, fun j v hv => by
    match j, hv with
    | 0, hv => simp at hv; subst hv; have : ad.add 0 = ad := by unfold Addr.add; simp
               rw [this]; exact hu⟩
  obtain ⟨A', c', w', hr, h2, h3⟩ := run_app (P := P) w (ty := o.type) E hown hl (by rfl : [u].length = 1 * 1) (fun x hx => by simp at hx; subst hx; exact h1) h63 hbytes hbase (c := c)
  have hblk := run_app_blk (P := P) w (ty := o.type) E hown hu h1 h63 hbytes hr
  have hBlt := World.ownsRow.lt hB
  have hapB : (Value.slice B m d).ownBlock = none ∨ (Value.slice B m d).ownBlock ≠ (Value.slice A0 n c0).ownBlock := by
    cases B with
    | none => left; rfl
    | some b =>
      right
      rw [own_blk, own_blk]
      cases A0 with
      | none => intro q; cases q
      | some a0 => intro q; injection q with q; exact hap a0 b rfl rfl q.symm
  have hB' : Ow w' base e 1 B m d ys := World.ownsRow.kept hB h3 hapB
  have hap' : Apart A' B := by
    intro a b ha hb q
    subst ha; subst hb
    rcases hblk with q1 | q1
    · rw [own_blk, own_blk] at q1
      cases A0 with
      | none => cases q1
      | some a0 =>
        injection q1 with q1
        exact hap a0 b rfl rfl (q1.symm.trans q)
    · rw [own_blk] at q1
      injection q1 with q1
      have q2 : a.block = w.heap.size := q1
      have := (hBlt b.block rfl).2
      omega
  unfold Oper.wp execOp
  simp only [ho, resolve, invoke, builtin, Sem.run_bind, Sem.run_pure, Result.andThen_ok, List.map_toArray, List.map_cons, List.map_nil, hs, hx, hr]
  exact h A' c' w' h2 hB' hap' h3 ((Below.refl _ _).grown h3 hbase (Ow.base_ hown))
theorem wpList_two {P : Program} {w : World} {ops : Array Oper} {rest : List Oper} {o : Oper} {a : Act} {Q : Exit → Act → World → Prop} {s x : Operand} {t : TypeId}
    {base : Nat} {e : TypeId} {z : Value} {bytes : Nat} (E : Elem P t e z 1 bytes) (hgd : o.guard = none)
    (ho : o.op = .call { callee := .builtin .append, args := #[s, x], argTypes := #[t, t] })
    {A0 : Option Addr} {n c0 : Nat} {xs : List Value} (hs : a.eval s = .slice A0 n c0) (hown : Ow w base e 1 A0 n c0 xs)
    {B : Option Addr} {m d : Nat} {ys : List Value} (hB : Ow w base e 1 B m d ys) (hap : Apart A0 B)
    {ad : Addr} {c : Nat} {u : Value} (hx : a.eval x = .slice (some ad) 1 c) (hu : w.cell? ad = some u) (h1 : u.oneCell' = true)
    (h63 : n + 1 ≤ maxLen) (hbytes : (n + 1) * bytes ≤ 140737488355328) (hbase : base ≤ w.heap.size)
    (h : ∀ A' c' w', Ow w' base e 1 A' (n + 1) c' (xs ++ [u]) → Ow w' base e 1 B m d ys → Apart A' B → w.grownBy w' (Value.slice A0 n c0).ownBlock → Below base w w' → wpList P ops Q rest (a.put o.dst (.slice A' (n + 1) c')) w') : wpList P ops Q (o :: rest) a w :=
  wpList_plain hgd fun _ hK => wp_two E ho hs hown hB hap hx hu h1 h63 hbytes hbase fun A' c' w' q1 q2 q3 q4 q5 => hK _ _ (h A' c' w' q1 q2 q3 q4 q5)
theorem step_two {P : Program} {w : World} {ops : Array Oper} {o : Oper} {a : Act} {K : Act → World → Prop} {Q : Exit → Act → World → Prop} {X : Prop} {s x : Operand} {t : TypeId}
    {base : Nat} {e : TypeId} {z : Value} {bytes : Nat} (E : Elem P t e z 1 bytes) (hg : o.guard = none)
    (ho : o.op = .call { callee := .builtin .append, args := #[s, x], argTypes := #[t, t] })
    {A0 : Option Addr} {n c0 : Nat} {xs : List Value} (hs : a.eval s = .slice A0 n c0) (hown : Ow w base e 1 A0 n c0 xs)
    {B : Option Addr} {m d : Nat} {ys : List Value} (hB : Ow w base e 1 B m d ys) (hap : Apart A0 B)
    {ad : Addr} {c : Nat} {u : Value} (hx : a.eval x = .slice (some ad) 1 c) (hu : w.cell? ad = some u) (h1 : u.oneCell' = true)
    (h63 : n + 1 ≤ maxLen) (hbytes : (n + 1) * bytes ≤ 140737488355328) (hbase : base ≤ w.heap.size)
    (h : ∀ A' c' w', Ow w' base e 1 A' (n + 1) c' (xs ++ [u]) → Ow w' base e 1 B m d ys → Apart A' B → w.grownBy w' (Value.slice A0 n c0).ownBlock → Below base w w' → K (a.put o.dst (.slice A' (n + 1) c')) w') :
    if Region.wanted o (yielded ops a.tmps) = true then Oper.wp P o a w K Q else X := by
  have hw : Region.wanted o (yielded ops a.tmps) = true := by simp [Region.wanted, hg]
  rw [if_pos hw]
  exact wp_two E ho hs hown hB hap hx hu h1 h63 hbytes hbase h
end Go.Proofs.YtieeinppoiihpaaDoor
