/-
  Helper laws over any program: a slice that reads as a list (nil let in), a row that the call owns, append, conversion of bytes to a string. No condition of ours: plain lemmas.
-/
import Derived.WalkKit
import Derived.Laws.CopyOwn
import Derived.Laws.BytesArg
import Derived.Deep.AppendLies
import Derived.Deep.Draws
import Derived.Maps.AppendAt
import Derived.RegionTactic
import Derived.OwnWalk
import Derived.Lib.Hide
import Derived.Deep.DeepFit
import Derived.Deep.QuietTactic
import Derived.BigQuiet
import Derived.WalkSpells
import Derived.Lib.SlBytesConst
namespace Go.Proofs.Ytjebmmmjjiomfaa
open Go.RowKit

theorem blk_add (a : Addr) (n : Nat) : (a.add n).block = a.block := by unfold Addr.add; split <;> rfl
theorem add_add (a : Addr) (i j : Nat) : (a.add i).add j = a.add (i + j) := by
  unfold Addr.add
  by_cases hi : i = 0 <;> by_cases hj : j = 0 <;> simp [hi, hj, Nat.add_assoc]
theorem add_mk (g o j : Nat) : (⟨g, o, none⟩ : Addr).add j = ⟨g, o + j, none⟩ := by unfold Addr.add; split <;> simp_all

/-- bytes as cells -/
def bv (l : List UInt8) : List Value := l.map fun b => .int .u8 (b.toNat : Int)
/-- ints as cells -/
def iv (l : List Int) : List Value := l.map fun n => .int .i64 n
@[simp] theorem bv_length (l : List UInt8) : (bv l).length = l.length := by simp [bv]
@[simp] theorem iv_length (l : List Int) : (iv l).length = l.length := by simp [iv]
theorem bv_append (a b : List UInt8) : bv (a ++ b) = bv a ++ bv b := by simp [bv]
theorem iv_append (a b : List Int) : iv (a ++ b) = iv a ++ iv b := by simp [iv]
theorem bv_get (l : List UInt8) (j : Nat) : (bv l)[j]? = (l[j]?).map fun b => .int .u8 (b.toNat : Int) := by simp [bv]
theorem iv_get (l : List Int) (j : Nat) : (iv l)[j]? = (l[j]?).map fun n => .int .i64 n := by simp [iv]
theorem bv_take (l : List UInt8) (k : Nat) : bv (l.take k) = (bv l).take k := by simp [bv, List.map_take]
theorem bv_drop (l : List UInt8) (k : Nat) : bv (l.drop k) = (bv l).drop k := by simp [bv, List.map_drop]
theorem iv_take (l : List Int) (k : Nat) : iv (l.take k) = (iv l).take k := by simp [iv, List.map_take]
theorem iv_drop (l : List Int) (k : Nat) : iv (l.drop k) = (iv l).drop k := by simp [iv, List.map_drop]
theorem bv_one (l : List UInt8) : ∀ u ∈ bv l, u.oneCell' = true := by
  intro u hu; obtain ⟨_, _, rfl⟩ := List.mem_map.1 hu; rfl
theorem iv_one (l : List Int) : ∀ u ∈ iv l, u.oneCell' = true := by
  intro u hu; obtain ⟨_, _, rfl⟩ := List.mem_map.1 hu; rfl

/-- The cells xs lie from A on; where there are none nothing is asked of A. -/
def Lies (w : World) (A : Option Addr) (xs : List Value) : Prop :=
  xs = [] ∨ ∃ ad, A = some ad ∧ ∀ j u, xs[j]? = some u → w.cell? (ad.add j) = some u

section
variable {w w' : World} {A : Option Addr} {xs : List Value}
theorem Lies.nil (w : World) (A : Option Addr) : Lies w A [] := .inl rfl
theorem Lies.blk (h : Lies w A xs) {ad : Addr} (hA : A = some ad) (hx : xs ≠ []) : ad.block < w.heap.size := by
  rcases h with h | ⟨ad', h1, h2⟩
  · exact absurd h hx
  · subst hA; injection h1 with h1; subst h1
    obtain ⟨x, r, rfl⟩ := List.exists_cons_of_ne_nil hx
    have := World.block_lt_of_cell? w _ (h2 0 x rfl)
    rwa [blk_add] at this
theorem Lies.keep (h : Lies w A xs) (hk : ∀ p : Addr, p.block < w.heap.size → w'.cell? p = w.cell? p) : Lies w' A xs := by
  rcases h with h | ⟨ad, h1, h2⟩
  · exact .inl h
  · exact .inr ⟨ad, h1, fun j u hu => (hk _ (World.block_lt_of_cell? w _ (h2 j u hu))).trans (h2 j u hu)⟩
theorem Lies.below (h : Lies w A xs) (hb : Below w.heap.size w w') : Lies w' A xs := h.keep fun _ hp => hb.cell hp
theorem Lies.drew (h : Lies w A xs) : Lies w.drew A xs := h
theorem Lies.drewN (h : Lies w A xs) (k : Nat) : Lies (w.drewN k) A xs := h
theorem Lies.alloc (h : Lies w A xs) (o : Obj) : Lies (w.alloc o) A xs := h.keep fun p hp => World.cell?_alloc_lt w o p hp
theorem Lies.cut (h : Lies w A xs) (k : Nat) : Lies w (A.map (·.add k)) (xs.drop k) := by
  rcases h with h | ⟨ad, rfl, h2⟩
  · subst h; exact .inl (by simp)
  · refine .inr ⟨ad.add k, rfl, fun j u hu => ?_⟩
    rw [add_add]; exact h2 _ u (by rw [← hu, List.getElem?_drop])
theorem Lies.take (h : Lies w A xs) (k : Nat) : Lies w A (xs.take k) := by
  rcases h with h | ⟨ad, rfl, h2⟩
  · subst h; exact .inl (by simp)
  · refine .inr ⟨ad, rfl, fun j u hu => h2 j u ?_⟩
    rw [List.getElem?_take] at hu
    split at hu
    · exact hu
    · cases hu
end

/-- A slice value '.slice A n c' of elements of one cell reads as xs. -/
structure Sl (w : World) (A : Option Addr) (n c : Nat) (xs : List Value) : Prop where
  len : xs.length = n
  cap : n ≤ c
  top : c ≤ maxLen
  lies : Lies w A xs

section
variable {w w' : World} {A : Option Addr} {n c : Nat} {xs : List Value}
theorem Sl.none (w : World) : Sl w none 0 0 [] := ⟨rfl, Nat.le_refl _, Nat.zero_le _, .inl rfl⟩
theorem Sl.nile (w : World) (A : Option Addr) {c : Nat} (hc : c ≤ maxLen) : Sl w A 0 c [] := ⟨rfl, Nat.zero_le _, hc, .inl rfl⟩
theorem Sl.keep (h : Sl w A n c xs) (hk : ∀ p : Addr, p.block < w.heap.size → w'.cell? p = w.cell? p) : Sl w' A n c xs := ⟨h.len, h.cap, h.top, h.lies.keep hk⟩
theorem Sl.below (h : Sl w A n c xs) (hb : Below w.heap.size w w') : Sl w' A n c xs := ⟨h.len, h.cap, h.top, h.lies.below hb⟩
theorem Sl.drew (h : Sl w A n c xs) : Sl w.drew A n c xs := ⟨h.len, h.cap, h.top, h.lies⟩
theorem Sl.drewN (h : Sl w A n c xs) (k : Nat) : Sl (w.drewN k) A n c xs := ⟨h.len, h.cap, h.top, h.lies⟩
theorem Sl.alloc (h : Sl w A n c xs) (o : Obj) : Sl (w.alloc o) A n c xs := ⟨h.len, h.cap, h.top, h.lies.alloc o⟩
theorem Sl.at_ (h : Sl w A n c xs) {k : Nat} (hk : k < n) : ∃ ad u, A = some ad ∧ xs[k]? = some u ∧ w.cell? (ad.add k) = some u := by
  have hl : k < xs.length := by have := h.len; omega
  rcases h.lies with e | ⟨ad, hA, hc⟩
  · subst e; simp at hl
  · exact ⟨ad, xs[k], hA, List.getElem?_eq_getElem hl, hc k _ (List.getElem?_eq_getElem hl)⟩
/-- 's[:k]' -/
theorem Sl.pre (h : Sl w A n c xs) {k : Nat} (hk : k ≤ n) : Sl w A k c (xs.take k) :=
  ⟨by rw [List.length_take, h.len]; omega, by have := h.cap; omega, h.top, h.lies.take k⟩
/-- 's[lo:hi]', as the model says its address. -/
theorem Sl.sub (h : Sl w A n c xs) {lo hi : Nat} (h1 : lo ≤ hi) (h2 : hi ≤ n) :
    Sl w (if c = lo then A else A.map (·.add lo)) (hi - lo) (c - lo) ((xs.take hi).drop lo) := by
  have hl := h.len; have hc := h.cap; have ht := h.top
  refine ⟨by simp [List.length_drop, List.length_take]; omega, by omega, by omega, ?_⟩
  by_cases e : c = lo
  · have : (xs.take hi).drop lo = [] := List.drop_eq_nil_of_le (by simp [List.length_take]; omega)
    rw [this]; exact .inl rfl
  · rw [if_neg e]; exact (h.lies.take hi).cut lo
end

/-- bytes -/
theorem Sl.byte {w : World} {A : Option Addr} {n c : Nat} {l : List UInt8} (h : Sl w A n c (bv l)) {k : Nat} (hk : k < n) :
    ∃ (ad : Addr) (hl : k < l.length), A = some ad ∧ w.cell? (ad.add k) = some (.int .u8 ((l[k]'hl).toNat : Int)) := by
  obtain ⟨ad, u, hA, hu, hc⟩ := h.at_ hk
  have hl : k < l.length := by have := h.len; simp at this; omega
  refine ⟨ad, hl, hA, hc.trans ?_⟩
  rw [bv_get, List.getElem?_eq_getElem hl] at hu
  simpa using hu.symm
theorem Sl.int {w : World} {A : Option Addr} {n c : Nat} {l : List Int} (h : Sl w A n c (iv l)) {k : Nat} (hk : k < n) :
    ∃ (ad : Addr) (hl : k < l.length), A = some ad ∧ w.cell? (ad.add k) = some (.int .i64 (l[k]'hl)) := by
  obtain ⟨ad, u, hA, hu, hc⟩ := h.at_ hk
  have hl : k < l.length := by have := h.len; simp at this; omega
  refine ⟨ad, hl, hA, hc.trans ?_⟩
  rw [iv_get, List.getElem?_eq_getElem hl] at hu
  simpa using hu.symm

/-- '[]byte' to 'string' -/
theorem Sl.str {P : Program} {w : World} {A : Option Addr} {n c : Nat} {l : List UInt8} (h : Sl w A n c (bv l)) {src dst e : TypeId}
    (hs : P.underlying src = some (.slice e)) (he : P.underlying e = some (.int .u8)) (hd : P.underlying dst = some .string) :
    (convert src dst (.slice A n c)).run P w = .ok (.string ⟨l.toArray⟩) w := by
  have hlen := h.len
  simp only [bv_length] at hlen
  rw [run_convert_bytes_string w src dst e A n c hs he hd]
  rcases A with _ | ad
  · have h0 : l = [] := by
      rcases h.lies with e | ⟨ad, e, _⟩
      · simpa [bv] using e
      · cases e
    subst h0
    simp [Conv.bytesToString]
    rfl
  · have hl : (loadCells ad n).run P w = .ok ((l.map fun b => (b.toNat : Int)).map (Value.int .u8)).toArray w := by
      have := run_loadCells_list (P := P) w ad ((l.map fun b => (b.toNat : Int)).map (Value.int .u8)) (fun j v hj => by
        rcases h.lies with e | ⟨ad', e, hc⟩
        · have : l = [] := by simpa [bv] using e
          subst this; simp at hj
        · injection e with e; subst e
          refine hc j v ?_
          rw [← hj]; simp [bv]; rfl)
      simpa [hlen] using this
    rw [run_bytesToString w ad n c _ hl, foldl_push_bytes]
    have : (List.map (fun n : Int => UInt8.ofNat n.toNat) (List.map (fun b : UInt8 => (b.toNat : Int)) l)) = l := by
      rw [List.map_map]; conv => rhs; rw [← List.map_id l]
      apply List.map_congr_left; intro b _; simp
    rw [this]
    simp [ByteArray.empty, ByteArray.emptyWithCapacity]
    rfl

/-- What a walk is told of a slice of integers that came in. -/
def IsRow (k : IntKind) (w : World) (a : Option Addr) (len cap : Nat) (zs : List Int) : Prop :=
  (a = none ∧ len = 0 ∧ cap = 0 ∧ zs = []) ∨
  ∃ x, a = some x ∧ len ≤ cap ∧ cap ≤ maxLen ∧ zs.length = cap ∧ (∀ i, i < zs.length → w.cell? (x.add i) = some (.int k (zs.getD i 0))) ∧ ∀ n ∈ zs, (Lit.int k n).wf = true
theorem IsRow.bytes {w : World} {a : Option Addr} {len cap : Nat} {zs : List Int} (h : IsRow .u8 w a len cap zs) : ∃ l : List UInt8, Sl w a len cap (bv l) ∧ l.length = len := by
  rcases h with ⟨rfl, rfl, rfl, rfl⟩ | ⟨x, rfl, hl, hm, hz, hc, hw⟩
  · exact ⟨[], Sl.none w, rfl⟩
  · refine ⟨(zs.take len).map fun n => UInt8.ofNat n.toNat, ⟨by simp; omega, hl, hm, .inr ⟨x, rfl, fun j u hu => ?_⟩⟩, by simp; omega⟩
    rw [bv_get, List.getElem?_map, List.getElem?_take] at hu
    split at hu
    · rename_i hj
      have hjz : j < zs.length := by omega
      rw [hc j hjz, ← hu, List.getElem?_eq_getElem hjz]
      have hb := hw zs[j] (List.getElem_mem hjz)
      have h2 : 0 ≤ zs[j] ∧ zs[j] ≤ 255 := by
        simp [Lit.wf, IntKind.min, IntKind.max, IntKind.signed, IntKind.bits] at hb
        omega
      simp only [Option.map_some, List.getD_eq_getElem?_getD, List.getElem?_eq_getElem hjz, Option.getD_some]
      congr 2
      rw [UInt8.toNat_ofNat']
      omega
    · simp at hu
theorem IsRow.ints {w : World} {a : Option Addr} {len cap : Nat} {zs : List Int} (h : IsRow .i64 w a len cap zs) : Sl w a len cap (iv (zs.take len)) ∧ (zs.take len).length = len ∧ ∀ n ∈ zs.take len, -9223372036854775808 ≤ n ∧ n ≤ 9223372036854775807 := by
  rcases h with ⟨rfl, rfl, rfl, rfl⟩ | ⟨x, rfl, hl, hm, hz, hc, hw⟩
  · exact ⟨Sl.none w, rfl, by simp⟩
  · refine ⟨⟨by simp; omega, hl, hm, .inr ⟨x, rfl, fun j u hu => ?_⟩⟩, by simp; omega, fun n hn => ?_⟩
    · rw [iv_get, List.getElem?_take] at hu
      split at hu
      · rename_i hj
        have hjz : j < zs.length := by omega
        rw [hc j hjz, ← hu, List.getElem?_eq_getElem hjz]
        simp [List.getD_eq_getElem?_getD, List.getElem?_eq_getElem hjz]
      · simp at hu
    · have := hw n (List.mem_of_mem_take hn)
      simp [Lit.wf, IntKind.min, IntKind.max, IntKind.signed, IntKind.bits] at this
      omega

/-- A row that the call owns: nil and empty, or a block from base on. -/
def Ow (w : World) (base : Nat) (e : TypeId) (size : Nat) (A : Option Addr) (n c : Nat) (xs : List Value) : Prop :=
  w.ownsRow base e size (.slice A n c) n xs

section
variable {w w' : World} {base : Nat} {e : TypeId} {size : Nat} {A : Option Addr} {n c : Nat} {xs : List Value}
theorem Ow.nil (w : World) (base : Nat) (e : TypeId) (size : Nat) : Ow w base e size none 0 0 [] := World.ownsRow_nil _ _ _ _
theorem Ow.drew (h : Ow w base e size A n c xs) : Ow w.drew base e size A n c xs := h
theorem Ow.drewN (h : Ow w base e size A n c xs) (k : Nat) : Ow (w.drewN k) base e size A n c xs := h
theorem Ow.alloc (h : Ow w base e size A n c xs) (o : Obj) : Ow (w.alloc o) base e size A n c xs := World.ownsRow.alloc h o
theorem Ow.below (h : Ow w base e size A n c xs) (hb : Below w.heap.size w w') : Ow w' base e size A n c xs :=
  World.ownsRow.kept (row := none) h ⟨hb.os, hb.tape, hb.output, hb.size, fun k hk _ => hb.block k hk⟩ (by cases hv : (Value.slice A n c).ownBlock <;> simp)
theorem Ow.mono (h : Ow w base e size A n c xs) {b' : Nat} (hb : b' ≤ base) : Ow w b' e size A n c xs := by
  refine ⟨h.1, ?_⟩
  rcases h.2 with h2 | ⟨g, cap, cur, h3, h4, r⟩
  · exact .inl h2
  · exact .inr ⟨g, cap, cur, h3, by omega, r⟩
theorem Ow.lies (h : Ow w base e size A n c xs) : Lies w A xs := by
  rcases h.2 with ⟨hv, h0⟩ | ⟨g, cap, cur, hv, _, hg, _, _, _, _⟩
  · left
    exact List.eq_nil_of_length_eq_zero (by rw [h.1, h0]; simp)
  · injection hv with hA hn hc
    subst hA
    exact .inr ⟨_, rfl, World.ownsRow.cells (g := g) h rfl⟩
theorem Ow.sl (h : Ow w base e 1 A n c xs) : Sl w A n c xs := by
  refine ⟨by have := h.1; omega, ?_, ?_, h.lies⟩
  · rcases h.2 with ⟨hv, h0⟩ | ⟨g, cap, cur, hv, _, hg, h1, _⟩
    · injection hv with _ a b; omega
    · injection hv with _ a b; omega
  · rcases h.2 with ⟨hv, h0⟩ | ⟨g, cap, cur, hv, _, hg, h1, h2, _⟩
    · injection hv with _ a b; subst b; exact Nat.zero_le _
    · injection hv with _ a b; omega
theorem Ow.form (h : Ow w base e size A n c xs) (hn : 0 < n) : ∃ g, A = some ⟨g, 0, none⟩ ∧ base ≤ g ∧ g < w.heap.size := by
  obtain ⟨g, cap, hv, h1, h2⟩ := World.ownsRow.form h hn
  injection hv with hA
  exact ⟨g, hA, h1, h2⟩
theorem Ow.base_ (h : Ow w base e size A n c xs) : ∀ k, (Value.slice A n c).ownBlock = some k → base ≤ k := fun k hk => (World.ownsRow.lt h k hk).1
end

/-- A slice type, its element type's row of the table. -/
structure Elem (P : Program) (t e : TypeId) (z : Value) (size bytes : Nat) : Prop where
  und : P.underlying t = some (.slice e)
  info : (P.info? e).map (fun i => (i.zero, i.size, i.bytes)) = some (some z, size, bytes)
  zs : z.cells.size = size
  pos : 0 < size

/-- append onto an owned row; what is appended lies anywhere, nil let in. -/
theorem run_app {P : Program} (w : World) {base : Nat} {t ty e : TypeId} {z : Value} {size bytes : Nat} (E : Elem P t e z size bytes)
    {A0 : Option Addr} {n c0 : Nat} {xs : List Value} (hown : Ow w base e size A0 n c0 xs) {A : Option Addr} {m c : Nat} {news : List Value} (hl : Lies w A news) (hm : news.length = m * size) (h1 : ∀ u ∈ news, u.oneCell' = true)
    (h63 : n + m ≤ maxLen) (hbytes : (n + m) * bytes ≤ 140737488355328) (hbase : base ≤ w.heap.size) :
    ∃ A' c' w', (Builtin.append_ #[t, t] ty #[.slice A0 n c0, .slice A m c]).run P w = .ok (.slice A' (n + m) c') w' ∧ Ow w' base e size A' (n + m) c' (xs ++ news) ∧ w.grownBy w' (Value.slice A0 n c0).ownBlock := by
  obtain ⟨i, hi, hz, hs, hb⟩ := info_parts E.info
  have key : ∃ v' w', (Builtin.append_ #[t, t] ty #[.slice A0 n c0, .slice A m c]).run P w = .ok v' w' ∧ w'.ownsRow base e size v' (n + m) (xs ++ news) ∧ w.grownBy w' (Value.slice A0 n c0).ownBlock := by
    rcases A with _ | ad
    · have hn : news = [] := by
        rcases hl with h | ⟨ad, h, _⟩
        · exact h
        · cases h
      subst hn
      have hm0 : m = 0 := by
        have := E.pos
        rcases Nat.eq_zero_or_pos m with h | h
        · exact h
        · have : 0 < m * size := Nat.mul_pos h this
          simp at hm; omega
      subst hm0
      have hrun : (Builtin.append_ #[t, t] ty #[.slice A0 n c0, .slice none 0 c]).run P w = .ok (.slice A0 n c0) w := by
        rcases hown.2 with ⟨hv, rfl⟩ | ⟨g, cap, cur, hv, _, _, hnc, _⟩
        · injection hv with e1 e2 e3; subst e1; subst e3
          simp [Builtin.append_, run_underlying E.und, sizeOf, typeInfo, hi, Builtin.lenOf, Builtin.firstCells]
        · injection hv with e1 e2 e3; subst e1; subst e3
          simp [Builtin.append_, run_underlying E.und, sizeOf, typeInfo, hi, Builtin.lenOf, Builtin.firstCells, hnc, storeCells]
      exact ⟨_, w, hrun, by simpa [Ow] using hown, World.grownBy.refl w _⟩
    · have hcells : ∀ j u, news[j]? = some u → w.cell? (ad.add j) = some u := by
        intro j u hu
        rcases hl with h | ⟨ad', h, hc⟩
        · subst h; simp at hu
        · injection h with h; subst h; exact hc j u hu
      obtain ⟨v', w', hrun, h2, h3, _⟩ := run_append_own (P := P) w base t ty e i z size bytes E.und hi hz hs hb E.zs E.pos _ n xs hown ad m c news hm hcells h1 h63 hbytes hbase
      exact ⟨v', w', hrun, h2, h3⟩
  obtain ⟨v', w', h1, h2, h3⟩ := key
  have hform : ∃ A' c', v' = .slice A' (n + m) c' := by
    rcases h2.2 with ⟨rfl, h⟩ | ⟨g, cap, cur, rfl, _⟩
    · rw [h]; exact ⟨_, _, rfl⟩
    · exact ⟨_, _, rfl⟩
  obtain ⟨A', c', rfl⟩ := hform
  exact ⟨A', c', w', h1, h2, h3⟩

theorem wp_app {P : Program} {w : World} {o : Oper} {a : Act} {K : Act → World → Prop} {Q : Exit → Act → World → Prop} {s x : Operand} {t : TypeId}
    {base : Nat} {e : TypeId} {z : Value} {size bytes : Nat} (E : Elem P t e z size bytes)
    (ho : o.op = .call { callee := .builtin .append, args := #[s, x], argTypes := #[t, t] })
    {A0 : Option Addr} {n c0 : Nat} {xs : List Value} (hs : a.eval s = .slice A0 n c0) (hown : Ow w base e size A0 n c0 xs)
    {A : Option Addr} {m c : Nat} {news : List Value} (hx : a.eval x = .slice A m c) (hl : Lies w A news) (hm : news.length = m * size) (h1 : ∀ u ∈ news, u.oneCell' = true)
    (h63 : n + m ≤ maxLen) (hbytes : (n + m) * bytes ≤ 140737488355328) (hbase : base ≤ w.heap.size)
    (h : ∀ A' c' w', Ow w' base e size A' (n + m) c' (xs ++ news) → w.grownBy w' (Value.slice A0 n c0).ownBlock → Below base w w' → K (a.put o.dst (.slice A' (n + m) c')) w') : o.wp P a w K Q := by
  obtain ⟨A', c', w', hr, h2, h3⟩ := run_app (P := P) w (ty := o.type) E hown hl hm h1 h63 hbytes hbase (c := c)
  unfold Oper.wp execOp
  simp only [ho, resolve, invoke, builtin, Sem.run_bind, Sem.run_pure, Result.andThen_ok, List.map_toArray, List.map_cons, List.map_nil, hs, hx, hr]
  exact h A' c' w' h2 h3 ((Below.refl _ _).grown h3 hbase (Ow.base_ hown))

/-- THE WALK's LAW FOR append -/
theorem wpList_app {P : Program} {w : World} {ops : Array Oper} {rest : List Oper} {o : Oper} {a : Act} {Q : Exit → Act → World → Prop} {s x : Operand} {t : TypeId}
    {base : Nat} {e : TypeId} {z : Value} {size bytes : Nat} (E : Elem P t e z size bytes) (hgd : o.guard = none)
    (ho : o.op = .call { callee := .builtin .append, args := #[s, x], argTypes := #[t, t] })
    {A0 : Option Addr} {n c0 : Nat} {xs : List Value} (hs : a.eval s = .slice A0 n c0) (hown : Ow w base e size A0 n c0 xs)
    {A : Option Addr} {m c : Nat} {news : List Value} (hx : a.eval x = .slice A m c) (hl : Lies w A news) (hm : news.length = m * size) (h1 : ∀ u ∈ news, u.oneCell' = true)
    (h63 : n + m ≤ maxLen) (hbytes : (n + m) * bytes ≤ 140737488355328) (hbase : base ≤ w.heap.size)
    (h : ∀ A' c' w', Ow w' base e size A' (n + m) c' (xs ++ news) → w.grownBy w' (Value.slice A0 n c0).ownBlock → Below base w w' → wpList P ops Q rest (a.put o.dst (.slice A' (n + m) c')) w') : wpList P ops Q (o :: rest) a w :=
  wpList_plain hgd fun _ hK => wp_app E ho hs hown hx hl hm h1 h63 hbytes hbase fun A' c' w' h2 h3 h4 => hK _ _ (h A' c' w' h2 h3 h4)

/-- append onto nil -/
theorem wpList_app0 {P : Program} {w : World} {ops : Array Oper} {rest : List Oper} {o : Oper} {a : Act} {Q : Exit → Act → World → Prop} {s x : Operand} {t : TypeId}
    (base : Nat) {e : TypeId} {z : Value} {size bytes : Nat} (E : Elem P t e z size bytes) (hgd : o.guard = none)
    (ho : o.op = .call { callee := .builtin .append, args := #[s, x], argTypes := #[t, t] })
    (hs : a.eval s = .slice none 0 0)
    {A : Option Addr} {m c : Nat} {news : List Value} (hx : a.eval x = .slice A m c) (hl : Lies w A news) (hm : news.length = m * size) (h1 : ∀ u ∈ news, u.oneCell' = true)
    (h63 : m ≤ maxLen) (hbytes : m * bytes ≤ 140737488355328) (hbase : base ≤ w.heap.size)
    (h : ∀ A' c' w', Ow w' base e size A' m c' news → w.grownBy w' none → Below base w w' → wpList P ops Q rest (a.put o.dst (.slice A' m c')) w') : wpList P ops Q (o :: rest) a w :=
  wpList_app E hgd ho hs (Ow.nil w base e size) hx hl hm h1 (by omega) (by rw [Nat.zero_add]; exact hbytes) hbase fun A' c' w' h2 h3 h4 => by
    rw [Nat.zero_add, List.nil_append] at h2
    rw [Nat.zero_add]
    exact h A' c' w' h2 h3 h4

/-- the cell that 'append(out, x)' lays for x -/
theorem lies_new (w : World) (x : Value) (t : TypeId) : Lies (w.alloc (.cells #[x] t)) (some ⟨w.heap.size, 0, none⟩) [x] :=
  .inr ⟨_, rfl, cell_one_new w x t⟩
theorem lies_cells (w : World) (cs : Array Value) (t : TypeId) : Lies (w.alloc (.cells cs t)) (some ⟨w.heap.size, 0, none⟩) cs.toList :=
  .inr ⟨_, rfl, World.news_of_block (heap_alloc_new w _)⟩
theorem lies_cells_fr (w : World) (cs : Array Value) (t : TypeId) (fr : Nat × Nat) : Lies (w.alloc (.cells cs t fr)) (some ⟨w.heap.size, 0, none⟩) cs.toList :=
  .inr ⟨_, rfl, World.news_of_block (heap_alloc_new w _)⟩
theorem below_drewN {B : Nat} {a w : World} (h : Below B a w) (n : Nat) : Below B a (w.drewN n) := ⟨h.os, h.tape, h.output, h.size, h.block⟩
/-- one call's world behind another's -/
theorem nx {a b c : World} (h : Below a.heap.size a b) (k : Below b.heap.size b c) : Below a.heap.size a c := h.trans (k.mono h.size)
theorem nxa {a b : World} (h : Below a.heap.size a b) (o : Obj) : Below a.heap.size a (b.alloc o) := h.alloc h.size o
end Go.Proofs.Ytjebmmmjjiomfaa
