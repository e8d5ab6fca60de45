/- What the law WireOne calls, each with its bytes as the beginning of what was read. -/
import Derived.Test.YtjebmmmjjiomfaaSplit
namespace Go.Proofs.Ytjebmmmjjiomfaa
open Go.RowKit

theorem intK (l : List UInt8) (m k : Nat) (w : World) (h : Hid (takeI l = (m, k, 0))) :
    Calls Try.prog 16 #[.int .i64 (m : Int)] w fun e w' => ∃ A c, e = .returned (.tuple #[.slice A k c, .int .i64 0]) ∧ Sl w' A k c (bv (l.take k)) ∧ Below w.heap.size w w' := by
  obtain ⟨h1, h2, h3, h4, h5⟩ := int_take l m k h.out
  have := int_ok m w h1
  rw [h4] at this
  rw [show (l.take k).length = k by rw [List.length_take]; omega] at this
  exact this.mono fun e w' ⟨A, c, a1, a2, a3⟩ => ⟨A, c, a1, a2.sl, a3⟩
theorem splitL_ok (l : List UInt8) (bss : List (List UInt8)) (k : Nat) (h : splitL l = some (bss, k)) : bytesL (jl bss) = l.take k ∧ 1 ≤ k ∧ k ≤ l.length ∧ (jl bss).length < 1073741824 ∧ ∀ x ∈ bss, x.length < 1073741824 := by
  unfold splitL at h
  by_cases he : (takeB l).2.2 = 0
  · rw [if_neg (by simp [he])] at h
    have ht := takeB_ok l he
    cases hv : vecs (takeB l).1.length (takeB l).1 with
    | none => rw [hv] at h; simp at h
    | some bs =>
      rw [hv] at h
      simp only [Option.map_some, Option.some.injEq, Prod.mk.injEq] at h
      obtain ⟨rfl, rfl⟩ := h
      have hj := vecs_jl _ _ _ hv
      rw [hj.1]
      exact ⟨ht.1, ht.2.1, ht.2.2.1, ht.2.2.2.1, fun x hx => (hj.2 x hx).1⟩
  · rw [if_pos he] at h; cases h
theorem joinK (l : List UInt8) (bss : List (List UInt8)) (k : Nat) (A : Option Addr) (c base : Nat) (xs : List Value) (w : World) (h : Hid (splitL l = some (bss, k))) (hO : Ow w base 23 1 A bss.length c xs) (hB : BO w base xs bss) :
    Calls Try.prog 21 #[.slice A bss.length c] w fun e w' => ∃ A c, e = .returned (.tuple #[.slice A k c, .int .i64 0]) ∧ Sl w' A k c (bv (l.take k)) ∧ Below w.heap.size w w' := by
  obtain ⟨h1, h2, h3, h4, h5⟩ := splitL_ok l bss k h.out
  have := join_ok A bss.length c xs bss w hO.sl hB.bl h5 h4
  rw [h1] at this
  rw [show (l.take k).length = k by rw [List.length_take]; omega] at this
  exact this.mono fun e w' ⟨A, c, a1, a2, a3⟩ => ⟨A, c, a1, a2.sl, a3⟩
theorem takeO_ok (l x : List UInt8) (b : Bool) (k : Nat) (h : takeO l = (x, b, k, 0)) : 1 ≤ k ∧ k ≤ l.length ∧ x.length < 1073741824 ∧ (if b then 1 :: bytesL x else [0]) = l.take k := by
  cases l with
  | nil => simp [takeO] at h
  | cons u r =>
    have hu : takeO (u :: r) = if 1 < u.toNat then ([], false, 0, 11) else if u.toNat = 0 then ([], false, 1, 0) else if (takeB r).2.2 ≠ 0 then ([], false, 0, (takeB r).2.2) else ((takeB r).1, true, (takeB r).2.1 + 1, 0) := rfl
    rw [hu] at h
    by_cases h1 : 1 < u.toNat
    · rw [if_pos h1] at h; simp at h
    · rw [if_neg h1] at h
      by_cases h0 : u.toNat = 0
      · rw [if_pos h0] at h
        simp only [Prod.mk.injEq] at h
        obtain ⟨rfl, rfl, rfl, _⟩ := h
        have : u = 0 := UInt8.toNat_inj.1 h0
        subst this
        simp
      · rw [if_neg h0] at h
        by_cases he : (takeB r).2.2 = 0
        · rw [if_neg (by simp [he])] at h
          simp only [Prod.mk.injEq] at h
          obtain ⟨rfl, rfl, rfl, _⟩ := h
          have ht := takeB_ok r he
          have : u = 1 := UInt8.toNat_inj.1 (by show u.toNat = 1; omega)
          subst this
          refine ⟨by omega, by simp; exact ht.2.2.1, ht.2.2.2.1, ?_⟩
          rw [List.take_succ_cons, ← ht.1]; rfl
        · rw [if_pos he] at h
          simp only [Prod.mk.injEq] at h
          exact absurd h.2.2.2 he
theorem takeO_no (l x : List UInt8) (b : Bool) (k q : Nat) (h : takeO l = (x, b, k, q)) (hq : q ≠ 0) : b = false ∧ k = 0 := by
  cases l with
  | nil => simp [takeO] at h; exact ⟨h.2.1.symm ▸ rfl, h.2.2.1.symm ▸ rfl⟩
  | cons u r =>
    have hu : takeO (u :: r) = if 1 < u.toNat then ([], false, 0, 11) else if u.toNat = 0 then ([], false, 1, 0) else if (takeB r).2.2 ≠ 0 then ([], false, 0, (takeB r).2.2) else ((takeB r).1, true, (takeB r).2.1 + 1, 0) := rfl
    rw [hu] at h
    split at h
    · simp only [Prod.mk.injEq] at h; exact ⟨h.2.1.symm, h.2.2.1.symm⟩
    · split at h
      · simp only [Prod.mk.injEq] at h; exact absurd h.2.2.2.symm hq
      · split at h
        · simp only [Prod.mk.injEq] at h; exact ⟨h.2.1.symm, h.2.2.1.symm⟩
        · simp only [Prod.mk.injEq] at h; exact absurd h.2.2.2.symm hq
theorem takeOK (A : Option Addr) (n c : Nat) (l x : List UInt8) (b : Bool) (k q : Nat) (w : World) (h : Sl w A n c (bv l)) (hn : Hid (n ≤ 140737488355328)) (ht : Hid (takeO l = (x, b, k, q))) :
    Calls Try.prog 31 #[.slice A n c] w fun e w' => ∃ A' c', e = .returned (.tuple #[.slice A' x.length c', .bool b, .int .i64 (k : Int), .int .i64 (q : Int)]) ∧ Sl w' A' x.length c' (bv x) ∧ Below w.heap.size w w' :=
  (takeO_any A n c l w h hn).mono fun e w' ⟨A', c', h1, h2, h3⟩ => by
    rw [ht.out] at h1 h2; exact ⟨A', c', h1, h2.sl, h3⟩
theorem optK (A : Option Addr) (c : Nat) (l x : List UInt8) (b : Bool) (k : Nat) (w : World) (h : Sl w A x.length c (bv x)) (ht : Hid (takeO l = (x, b, k, 0))) :
    Calls Try.prog 27 #[.slice A x.length c, .bool b] w fun e w' => ∃ A' c', e = .returned (.tuple #[.slice A' k c', .int .i64 0]) ∧ Sl w' A' k c' (bv (l.take k)) ∧ Below w.heap.size w w' := by
  obtain ⟨h1, h2, h3, h4⟩ := takeO_ok l x b k ht.out
  have hk : (l.take k).length = k := by rw [List.length_take]; omega
  cases b with
  | false =>
    have := opt_none A x.length c w
    rw [← h4, ← hk, ← h4]
    exact this.mono fun e w' ⟨A, c, a1, a2, a3⟩ => ⟨A, c, a1, a2.sl, a3⟩
  | true =>
    have := opt_some A x.length c x w h h3
    rw [← h4, ← hk, ← h4]
    exact this.mono fun e w' ⟨A, c, a1, a2, a3⟩ => ⟨A, c, a1, a2.sl, a3⟩
end Go.Proofs.Ytjebmmmjjiomfaa
