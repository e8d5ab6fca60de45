/- What the second form's bound gives of a list of slices of bytes, and of bytes. -/
import Derived.Test.YtjebmmmjjiomfaaRows
import Derived.Test.YtjebmmmjjiomfaaBytes
namespace Go.Proofs.Ytjebmmmjjiomfaa
open Go.RowKit

section
variable {H : Type}
theorem bulk_one (d : DataW H) : 1 ≤ Rows.uptoBulk d := by
  cases d with
  | lit l => cases l <;> simp [Rows.uptoBulk]
  | _ => simp [Rows.uptoBulk]
theorem bulk_len (l : List (DataW H)) : l.length ≤ Rows.uptoBulkAll l := by
  induction l with
  | nil => simp [Rows.uptoBulkAll]
  | cons x r ih => have := bulk_one x; simp only [Rows.uptoBulkAll, List.length_cons]; omega
theorem bulk_mem {d : DataW H} {l : List (DataW H)} (h : d ∈ l) : Rows.uptoBulk d ≤ Rows.uptoBulkAll l := by
  induction l with
  | nil => cases h
  | cons x r ih =>
    simp only [Rows.uptoBulkAll]
    cases List.mem_cons.1 h with
    | inl e => subst e; omega
    | inr e => have := ih e; omega
theorem bulk_slice (es ss : List (DataW H)) : es.length + 1 ≤ Rows.uptoBulk (.slice es ss) := by
  have := bulk_len es
  simp only [Rows.uptoBulk]; omega
theorem bulk_rows : ∀ (el : List (DataW H)) (bss : List (List UInt8)), el.length = bss.length →
    (∀ (j : Nat) (l : List UInt8), bss[j]? = some l → ∃ di, el[j]? = some di ∧ ((di = .nil ∧ l = []) ∨ ∃ es ss, di = .slice es ss ∧ es.length = l.length)) → tot bss + bss.length ≤ Rows.uptoBulkAll el
  | [], [], _, _ => by simp [tot]
  | [], _ :: _, h, _ => by simp at h
  | _ :: _, [], h, _ => by simp at h
  | d :: el, b :: bss, h, hd => by
    have ih := bulk_rows el bss (by simpa using h) (fun j l hj => by simpa using hd (j + 1) l (by simpa using hj))
    obtain ⟨di, e1, e2⟩ := hd 0 b rfl
    have e1 : d = di := by simpa using e1
    subst e1
    have hb : b.length + 1 ≤ Rows.uptoBulk d := by
      rcases e2 with ⟨rfl, rfl⟩ | ⟨es, ss, rfl, hes⟩
      · simp [Rows.uptoBulk]
      · have := bulk_slice es ss; omega
    simp only [tot, Rows.uptoBulkAll, List.map_cons, List.sum_cons, List.length_cons] at ih ⊢
    omega
theorem bulk_bss {d : DataW H} {bss : List (List UInt8)} (h : DBss d bss) : tot bss + bss.length ≤ Rows.uptoBulk d := by
  rcases h with ⟨rfl, rfl⟩ | ⟨el, sp, rfl, h1, h2⟩
  · simp [tot]
  · have := bulk_rows el bss h1 h2
    simp only [Rows.uptoBulk]; omega
theorem bulk_all {l : List (DataW H)} (hk : Rows.uptoSmall H l = true) : ∀ d ∈ l, Rows.uptoBulk d ≤ 1048576 := fun d hd => by
  have h : Rows.uptoBulkAll l ≤ 1048576 := of_decide_eq_true hk
  have := bulk_mem hd
  omega
end
end Go.Proofs.Ytjebmmmjjiomfaa
