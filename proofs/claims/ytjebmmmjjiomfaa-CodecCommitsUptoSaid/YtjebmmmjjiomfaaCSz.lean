/- How many bytes trees, commits and welcomes take: plain. -/
import Derived.Test.YtjebmmmjjiomfaaCPlain
import Derived.Test.YtjebmmmjjiomfaaCLive
import Derived.Test.YtjebmmmjjiomfaaCMem
namespace Go.Proofs.Ytjebmmmjjiomfaa
open Go.RowKit

theorem nsI_ge : ∀ {l : List Int} {b : List UInt8}, nsI l = some b → l.length ≤ b.length
  | [], b, h => Nat.zero_le _
  | n :: l, b, h => by
    rw [nsI_cons] at h
    obtain ⟨x, y, h1, h2, rfl⟩ := seqB_some h
    have h3 := nsI_ge h2
    unfold nI at h1; split at h1
    · injection h1 with h1; subst h1
      have := (intL_le n.toNat).1
      simp; omega
    · cases h1
theorem vecB_ge {l b : List UInt8} (h : vecB l = some b) : l.length + 1 ≤ b.length := by
  unfold vecB at h; split at h
  · injection h with h; subst h; rw [bytesL_len]; have := (intL_le l.length).1; omega
  · cases h
theorem nodeB_ge {s : TN} {b : List UInt8} (h : nodeB s = some b) : 1 + s.un.length ≤ b.length := by
  unfold nodeB at h
  split at h
  · split at h
    · next hz => have := nsI_ge h; rw [hz.2.2.2.2]; simpa using this
    · cases h
  · split at h
    · split at h
      · next hz => have := nsI_ge h; rw [hz]; simp at this ⊢; omega
      · cases h
    · split at h
      · split at h
        · obtain ⟨x, y, h1, h2, rfl⟩ := seqB_some h
          obtain ⟨z, h3, h4⟩ := bind2 h2
          have := nsI_ge h1; have := nsI_ge h3; have := vecB_ge h4
          simp at *; omega
        · cases h
      · cases h
theorem allB_ge {α : Type} {f : α → Option (List UInt8)} (g : α → Nat) (hf : ∀ x y, f x = some y → g x ≤ y.length) : ∀ {l : List α} {b : List UInt8}, allB f l = some b → (l.map g).sum ≤ b.length
  | [], b, h => by simp
  | x :: l, b, h => by
    obtain ⟨u, v, h1, h2, rfl⟩ := seqB_some h
    have h3 := hf _ _ h1
    have h4 := allB_ge g hf h2
    simp; omega
theorem treeB_ge {t : List TN} {b : List UInt8} (h : treeB t = some b) : szT t ≤ b.length := by
  obtain ⟨u, h1, h2⟩ := bind2 h
  have h3 := allB_ge (fun s : TN => 1 + s.un.length) (fun _ _ e => nodeB_ge e) h1
  have := vecB_ge h2
  unfold szT; omega
theorem welcomeB_ge {x : WM} {b : List UInt8} (h : welcomeB x = some b) : szT x.tree ≤ b.length := by
  obtain ⟨u, v, h1, h2, rfl⟩ := seqB_some h
  obtain ⟨p, q, h3, h4, rfl⟩ := seqB_some h2
  have := treeB_ge h3
  simp; omega
theorem sum_add {α : Type} (g : α → Nat) : ∀ (l : List α), (l.map fun s => 1 + g s).sum = l.length + (l.map g).sum
  | [] => rfl
  | a :: l => by simp only [List.map_cons, List.sum_cons, List.length_cons, sum_add g l]; omega
theorem propB_ge {s : PR} {b : List UInt8} (h : propB s = some b) : 1 + s.leaf.un.length ≤ b.length := by
  obtain ⟨u, v, h1, h2, rfl⟩ := seqB_some h
  obtain ⟨p, q, h3, h4, rfl⟩ := seqB_some h2
  have := nodeB_ge h3
  simp; omega
theorem pnW_ge {s : PN} {b : List UInt8} (h : pnW s = some b) : 1 + s.seals.length ≤ b.length := by
  obtain ⟨u, v, h1, h2, rfl⟩ := seqB_some h
  obtain ⟨z, h3, h4⟩ := bind2 h2
  have := nsI_ge h1; have := nsI_ge h3; have := vecB_ge h4
  simp at *; omega
theorem pathB_ge {s : TN} {ns : List PN} {b : List UInt8} (h : pathB s ns = some b) : s.un.length + ns.length + (ns.map fun n => n.seals.length).sum ≤ b.length := by
  obtain ⟨u, v, h1, h2, rfl⟩ := seqB_some h
  obtain ⟨z, h3, h4⟩ := bind2 h2
  have h5 := allB_ge (fun s : PN => 1 + s.seals.length) (fun _ _ e => pnW_ge e) h3
  rw [sum_add (fun s : PN => s.seals.length)] at h5
  have := nodeB_ge h1; have := vecB_ge h4
  simp; omega
theorem commitB_ge {c : CM} {b : List UInt8} (h : commitB c = some b) : szC c ≤ b.length := by
  obtain ⟨b1, r1, h1, hr1, rfl⟩ := seqB_some h
  obtain ⟨b2, r2, h2, hr2, rfl⟩ := seqB_some hr1
  obtain ⟨b3, r3, h3, hr3, rfl⟩ := seqB_some hr2
  obtain ⟨z, h4, h5⟩ := bind2 h2
  have h6 := allB_ge (fun s : PR => 1 + s.leaf.un.length) (fun _ _ e => propB_ge e) h4
  rw [sum_add (fun s : PR => s.leaf.un.length)] at h6
  have h7 := vecB_ge h5
  have h8 : c.leaf.un.length + c.nodes.length + (c.nodes.map fun n => n.seals.length).sum ≤ r3.length := by
    split at hr3
    · obtain ⟨u, v, k1, k2, rfl⟩ := seqB_some hr3
      have := pathB_ge k2
      simp; omega
    · split at hr3
      · next hz =>
        obtain ⟨⟨_, _, _, _, _, z6⟩, z7⟩ := hz
        rw [z6, z7]; simp
      · cases hr3
  unfold szC
  simp; omega
/-! ### above -/
theorem intL_up (n : Nat) : (intL n).length ≤ 4 := (intL_le n).2
theorem vecB_up {l b : List UInt8} (h : vecB l = some b) : b.length ≤ l.length + 4 := by
  unfold vecB at h; split at h
  · injection h with h; subst h; rw [bytesL_len]; have := (intL_le l.length).2; omega
  · cases h
theorem allB_up {α : Type} {f : α → Option (List UInt8)} (g : α → Nat) (hf : ∀ x y, f x = some y → y.length ≤ g x) : ∀ {l : List α} {b : List UInt8}, allB f l = some b → b.length ≤ (l.map g).sum
  | [], b, h => by injection h with h; subst h; simp
  | x :: l, b, h => by
    obtain ⟨u, v, h1, h2, rfl⟩ := seqB_some h
    have h3 := hf _ _ h1
    have h4 := allB_up g hf h2
    simp; omega
theorem sum_lin {α : Type} (g : α → Nat) (k m : Nat) : ∀ (l : List α), (l.map fun s => k * g s + m).sum = k * (l.map g).sum + m * l.length
  | [] => by simp
  | a :: l => by simp only [List.map_cons, List.sum_cons, List.length_cons, sum_lin g k m l, Nat.mul_add]; omega
theorem nodeB_up {s : TN} {b : List UInt8} (h : nodeB s = some b) : b.length ≤ 4 * s.un.length + 28 := by have := nodeB_len h; omega
theorem treeB_up {t : List TN} {b : List UInt8} (h : treeB t = some b) : b.length ≤ 28 * szT t + 4 := by
  obtain ⟨u, h1, h2⟩ := bind2 h
  have h3 := allB_up (fun s : TN => 4 * s.un.length + 28) (fun _ _ e => nodeB_up e) h1
  rw [sum_lin (fun s : TN => s.un.length)] at h3
  have := vecB_up h2
  unfold szT; rw [sum_add (fun s : TN => s.un.length)]; omega
theorem welcomeB_up {x : WM} {b : List UInt8} (h : welcomeB x = some b) : b.length ≤ 28 * szT x.tree + 40 := by
  obtain ⟨u, v, h1, h2, rfl⟩ := seqB_some h
  obtain ⟨p, q, h3, h4, rfl⟩ := seqB_some h2
  have := treeB_up h3; have := nsI_len h1; have := nsI_len h4
  simp at *; omega
theorem pathB_up {s : TN} {ns : List PN} {b : List UInt8} (h : pathB s ns = some b) : b.length ≤ 4 * s.un.length + 4 * (ns.map fun n => n.seals.length).sum + 8 * ns.length + 32 := by
  obtain ⟨u, v, h1, h2, rfl⟩ := seqB_some h
  obtain ⟨z, h3, h4⟩ := bind2 h2
  have h5 := allB_up (f := pnB') (fun s : PN => 4 * s.seals.length + 8) (fun _ _ e => pnB'_len e) h3
  rw [sum_lin (fun s : PN => s.seals.length)] at h5
  have := nodeB_up h1; have := vecB_up h4
  simp; omega
theorem commitB_up {c : CM} {b : List UInt8} (h : commitB c = some b) : b.length ≤ 40 * szC c + 100 := by
  obtain ⟨b1, r1, h1, hr1, rfl⟩ := seqB_some h
  obtain ⟨b2, r2, h2, hr2, rfl⟩ := seqB_some hr1
  obtain ⟨b3, r3, h3, hr3, rfl⟩ := seqB_some hr2
  obtain ⟨z, h4, h5⟩ := bind2 h2
  have h6 := allB_up (fun s : PR => 4 * s.leaf.un.length + 40) (fun _ _ e => propB_len e) h4
  rw [sum_lin (fun s : PR => s.leaf.un.length)] at h6
  have h7 := vecB_up h5
  have h8 := nsI_len h1; have h9 := nsI_len h3
  have h10 : r3.length ≤ 4 * c.leaf.un.length + 4 * (c.nodes.map fun n => n.seals.length).sum + 8 * c.nodes.length + 36 := by
    split at hr3
    · obtain ⟨u, v, k1, k2, rfl⟩ := seqB_some hr3
      have := pathB_up k2; have := nsI_len k1
      simp at *; omega
    · split at hr3
      · have := nsI_len hr3; simp at this; omega
      · cases hr3
  unfold szC
  simp at *; omega
end Go.Proofs.Ytjebmmmjjiomfaa
