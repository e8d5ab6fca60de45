/-
  Helper laws: an argument that is a slice of slices of bytes, opened; what the form's reach says of it.
-/
import Derived.Test.YtjebmmmjjiomfaaBase2
import Derived.ProofKit
import Derived.OpenShut
import Derived.SizedLaws
import Derived.Deep.Slices
namespace Go.Proofs.Ytjebmmmjjiomfaa
open Go.RowKit Go.ChangeShapes Go.WideShapes Go.Deep

/-- each cell is a slice of bytes that reads as told -/
def BL (w : World) (xs : List Value) (bss : List (List UInt8)) : Prop :=
  xs.length = bss.length ∧ ∀ (j : Nat) (v : Value), xs[j]? = some v → ∃ a m c l, v = .slice a m c ∧ bss[j]? = some l ∧ Sl w a m c (bv l)
theorem BL.keep {w w' : World} {xs : List Value} {bss : List (List UInt8)} (h : BL w xs bss) (hb : Below w.heap.size w w') : BL w' xs bss :=
  ⟨h.1, fun j v hv => by obtain ⟨a, m, c, l, e1, e2, e3⟩ := h.2 j v hv; exact ⟨a, m, c, l, e1, e2, e3.below hb⟩⟩
theorem BL.alloc {w : World} {xs : List Value} {bss : List (List UInt8)} (h : BL w xs bss) (o : Obj) : BL (w.alloc o) xs bss :=
  ⟨h.1, fun j v hv => by obtain ⟨a, m, c, l, e1, e2, e3⟩ := h.2 j v hv; exact ⟨a, m, c, l, e1, e2, e3.alloc o⟩⟩
/-- the datum of such an argument -/
def DBss {H : Type} (d : DataW H) (bss : List (List UInt8)) : Prop :=
  (d = .nil ∧ bss = []) ∨ ∃ el sp, d = .slice el sp ∧ el.length = bss.length ∧
    ∀ (j : Nat) (l : List UInt8), bss[j]? = some l → ∃ di, el[j]? = some di ∧ ((di = .nil ∧ l = []) ∨ ∃ es ss, di = .slice es ss ∧ es.length = l.length)

section
variable {H : Type} {enc : TypeId × Value → H} {P : Program} {w : World}
theorem bytes_of_ints {k : Nat} {zs : List Int} {x : Addr} {len : Nat} (hl : len ≤ k) (hm : k ≤ maxLen) (hz : zs.length = k) (hc : ∀ i, i < zs.length → w.cell? (x.add i) = some (.int .u8 (zs.getD i 0))) (hw : ∀ n ∈ zs, (Lit.int .u8 n).wf = true) :
    ∃ l : List UInt8, Sl w (some x) len k (bv l) ∧ l.length = len :=
  IsRow.bytes (.inr ⟨x, rfl, hl, hm, hz, hc, hw⟩)
theorem open_bss {fuel : Nat} {t e u : TypeId} {cs : List Value} {x : DataW H × List MemPlace} (ht : P.underlying t = some (.slice e)) (he : P.underlying e = some (.slice u)) (hu : P.underlying u = some (.int .u8))
    (hcu : P.cellsOf u = 1) (hce : P.cellsOf e = 1) (h : DataW.trod enc P w 0 (fun _ => true) true fuel t cs = some x) :
    ∃ (A : Option Addr) (n c : Nat) (xs : List Value) (bss : List (List UInt8)), cs = [.slice A n c] ∧ Sl w A n c xs ∧ BL w xs bss ∧ DBss x.1 bss := by
  rcases open_slice1 ht hce h with ⟨hcs, hx⟩ | ⟨a, len, cap, m, n, V, D, Pl, hcs, _, hl, hm, hmm, hx, hi⟩
  · exact ⟨none, 0, 0, [], [], hcs, Sl.none w, ⟨rfl, fun j v hv => by simp at hv⟩, .inl ⟨by rw [hx], rfl⟩⟩
  · have hmm' : m = cap := by simpa using hmm
    subst hmm'
    have inner : ∀ i, i < len → ∃ l : List UInt8, (∃ b k c, V i = .slice b k c ∧ Sl w b k c (bv l)) ∧ ((D i = .nil ∧ l = []) ∨ ∃ es ss, D i = .slice es ss ∧ es.length = l.length) := by
      intro i him
      obtain ⟨_, htr⟩ := hi i (by omega)
      rcases open_ints he hu hcu htr with ⟨h1, h2⟩ | ⟨b, k, c, zs, h1, _, h3, h4, h5, h6, h7, h8⟩
      · refine ⟨[], ⟨none, 0, 0, by simpa using h1, Sl.none w⟩, .inl ⟨?_, rfl⟩⟩
        have := congrArg Prod.fst h2; simpa using this
      · obtain ⟨l, hs, hll⟩ := bytes_of_ints h3 h4 (by simpa using h5) h7 h8
        refine ⟨l, ⟨some b, k, c, by simpa using h1, hs⟩, .inr ⟨lits .u8 (zs.take k), lits .u8 (zs.drop k), ?_, ?_⟩⟩
        · have := congrArg Prod.fst h6; simpa using this
        · have h5' : zs.length = c := by simpa using h5
          simp [lits, hll]; omega
    have hch := Classical.axiomOfChoice (r := fun (i : Nat) (l : List UInt8) => i < len → (∃ b k c, V i = .slice b k c ∧ Sl w b k c (bv l)) ∧ ((D i = .nil ∧ l = []) ∨ ∃ es ss, D i = .slice es ss ∧ es.length = l.length)) (fun i => by
      by_cases h : i < len
      · obtain ⟨l, hl⟩ := inner i h; exact ⟨l, fun _ => hl⟩
      · exact ⟨[], fun h' => absurd h' h⟩)
    obtain ⟨L, hL⟩ := hch
    have gv : ∀ (α : Type) (f : Nat → α) (j : Nat), ((List.range len).map f)[j]? = if j < len then some (f j) else none := fun α f j => by
      rw [List.getElem?_map]; by_cases hj : j < len <;> simp [hj]
    refine ⟨some a, len, m, (List.range len).map V, (List.range len).map L, hcs, ⟨by simp, hl, hm, .inr ⟨a, rfl, fun j u hu => ?_⟩⟩, ⟨by simp, fun j v hv => ?_⟩, .inr ⟨(List.range len).map D, (List.range (m - len)).map fun j => D (len + j), by rw [hx], by simp, fun j l hl => ?_⟩⟩
    · rw [gv] at hu
      split at hu
      · injection hu with hu; rw [← hu]; exact (hi j (by omega)).1
      · cases hu
    · rw [gv] at hv
      split at hv
      · rename_i hj
        injection hv with hv
        obtain ⟨⟨b, k, c, h1, h2⟩, _⟩ := hL j hj
        exact ⟨b, k, c, L j, by rw [← hv, h1], by rw [gv, if_pos hj], h2⟩
      · cases hv
    · rw [gv] at hl
      split at hl
      · rename_i hj
        injection hl with hl
        subst hl
        exact ⟨D j, by rw [gv, if_pos hj], (hL j hj).2⟩
      · cases hl

theorem weights_all {e : TypeId} : ∀ {ds : List (DataW H)} {j : Nat} {d : DataW H}, ds[j]? = some d → ∀ n ∈ d.weights P e, n ∈ DataW.weightsAll P e ds
  | d0 :: ds, 0, d, hd, n, hn => by
    simp only [List.getElem?_cons_zero, Option.some.injEq] at hd
    subst hd
    simp only [DataW.weightsAll, List.mem_append]; exact .inl hn
  | d0 :: ds, j + 1, d, hd, n, hn => by
    simp only [List.getElem?_cons_succ] at hd
    simp only [DataW.weightsAll, List.mem_append]; exact .inr (weights_all hd n hn)
  | [], _, _, hd, _, _ => by simp at hd
/-- the reach -/
theorem DBss.reach {d : DataW H} {bss : List (List UInt8)} (h : DBss d bss) {t e u : TypeId} (ht : P.underlying t = some (.slice e)) (he : P.underlying e = some (.slice u))
    (hw : ∀ n ∈ d.weights P t, n ≤ reachBytes) : bss.length * P.bytesOf e ≤ reachBytes ∧ ∀ l ∈ bss, l.length * P.bytesOf u ≤ reachBytes := by
  rcases h with ⟨rfl, rfl⟩ | ⟨el, sp, rfl, hlen, hin⟩
  · exact ⟨by simp, fun l hl => by simp at hl⟩
  · simp only [DataW.weights, ht, List.mem_cons, List.mem_append] at hw
    refine ⟨?_, fun l hl => ?_⟩
    · have := hw _ (.inl rfl)
      rw [Nat.add_mul, hlen] at this; omega
    · obtain ⟨j, hj⟩ := List.getElem?_of_mem hl
      obtain ⟨di, hdi, h2⟩ := hin j l hj
      rcases h2 with ⟨rfl, rfl⟩ | ⟨es, ss, rfl, hes⟩
      · simp
      · have := hw ((es.length + ss.length) * P.bytesOf u) (.inr (.inl (weights_all hdi _ (by simp [DataW.weights, he]))))
        rw [Nat.add_mul, hes] at this; omega
end
end Go.Proofs.Ytjebmmmjjiomfaa
