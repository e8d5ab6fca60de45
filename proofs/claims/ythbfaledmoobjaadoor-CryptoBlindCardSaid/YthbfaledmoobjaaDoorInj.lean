/- Other nodes have other texts. -/
import Derived.Test.YthbfaledmoobjaaDoorArena
namespace Go.Proofs.YthbfaledmoobjaaDoor
open Go.RowKit

def val (l : List UInt8) : Nat := l.foldl (fun a c => a * 10 + (c.toNat - 48)) 0
theorem dig_nat {k : Nat} (h : k < 10) : (UInt8.ofNat (48 + k)).toNat = 48 + k := by
  rw [UInt8.toNat_ofNat']; omega
theorem dec_val (u : Nat) : val (Lib.decDigits u) = u := by
  induction u using Nat.strongRecOn with
  | _ u ih =>
    rw [Lib.decDigits]
    split
    · rename_i h
      simp [val]
      omega
    · rename_i h
      have := ih (u / 10) (by omega)
      unfold val at *
      rw [List.foldl_append, this]
      simp
      omega
theorem dec_dig (u : Nat) : ∀ c ∈ Lib.decDigits u, 48 ≤ c.toNat ∧ c.toNat ≤ 57 := by
  induction u using Nat.strongRecOn with
  | _ u ih =>
    rw [Lib.decDigits]
    split
    · rename_i h
      intro c hc
      rw [List.mem_singleton] at hc
      subst hc
      rw [dig_nat h]; omega
    · rename_i h
      intro c hc
      rcases List.mem_append.1 hc with hc | hc
      · exact ih (u / 10) (by omega) c hc
      · rw [List.mem_singleton] at hc
        subst hc
        rw [dig_nat (by omega)]; omega
theorem dec_ne (u : Nat) : Lib.decDigits u ≠ [] := by
  rw [Lib.decDigits]; split <;> simp
theorem itoa_inj {a b : Int} (h : Lib.itoa a = Lib.itoa b) : a = b := by
  have key : ∀ (k m : Nat), 45 :: Lib.decDigits k ≠ Lib.decDigits m := fun k m e => by
    have := dec_dig m 45 (by rw [← e]; exact List.mem_cons_self)
    exact absurd this.1 (by decide)
  unfold Lib.itoa at h
  split at h <;> split at h
  · injection h with _ h
    have := congrArg val h
    rw [dec_val, dec_val] at this
    omega
  · exact absurd h (key _ _)
  · exact absurd h.symm (key _ _)
  · have := congrArg val h
    rw [dec_val, dec_val] at this
    omega
def Sep (c : UInt8) : Prop := c = 32 ∨ c = 124
theorem itoa_free (a : Int) : ∀ c ∈ Lib.itoa a, ¬ Sep c := by
  intro c hc hs
  have h : c = 45 ∨ (48 ≤ c.toNat ∧ c.toNat ≤ 57) := by
    unfold Lib.itoa at hc
    split at hc
    · rcases List.mem_cons.1 hc with e | hc
      · exact .inl e
      · exact .inr (dec_dig _ c hc)
    · exact .inr (dec_dig _ c hc)
  rcases hs with rfl | rfl
  · rcases h with h | h
    · cases h
    · exact absurd h.1 (by decide)
  · rcases h with h | h
    · cases h
    · exact absurd h.2 (by decide)
theorem cut {c d : UInt8} {r q : List UInt8} (hc : Sep c) (hd : Sep d) : ∀ (a b : List UInt8), (∀ x ∈ a, ¬ Sep x) → (∀ x ∈ b, ¬ Sep x) → a ++ c :: r = b ++ d :: q → a = b ∧ c = d ∧ r = q
  | [], [], _, _, h => by simp at h; exact ⟨rfl, h.1, h.2⟩
  | [], y :: b, _, hb, h => by
    simp at h
    exact absurd (h.1 ▸ hc) (hb y List.mem_cons_self)
  | x :: a, [], ha, _, h => by
    simp at h
    exact absurd (h.1 ▸ hd) (ha x List.mem_cons_self)
  | x :: a, y :: b, ha, hb, h => by
    simp at h
    obtain ⟨h1, h2, h3⟩ := cut hc hd a b (fun z hz => ha z (List.mem_cons_of_mem _ hz)) (fun z hz => hb z (List.mem_cons_of_mem _ hz)) h.2
    exact ⟨by rw [h.1, h1], h2, h3⟩
def enc (l : List Int) (s : List UInt8) : List UInt8 := (l.flatMap fun v => 32 :: Lib.itoa v) ++ 124 :: s
theorem enc_head (l : List Int) (s : List UInt8) : ∃ c r, enc l s = c :: r ∧ Sep c := by
  cases l with
  | nil => exact ⟨124, s, rfl, .inr rfl⟩
  | cons v l => exact ⟨32, _, by unfold enc; rw [List.flatMap_cons, List.append_assoc, List.cons_append], .inl rfl⟩
theorem enc_inj : ∀ (l m : List Int) (s t : List UInt8), enc l s = enc m t → l = m ∧ s = t
  | [], [], s, t, h => by simp [enc] at h; exact ⟨rfl, h⟩
  | [], v :: m, s, t, h => by simp [enc] at h
  | v :: l, [], s, t, h => by simp [enc] at h
  | v :: l, u :: m, s, t, h => by
    have e1 : enc (v :: l) s = 32 :: (Lib.itoa v ++ enc l s) := by unfold enc; rw [List.flatMap_cons]; simp
    have e2 : enc (u :: m) t = 32 :: (Lib.itoa u ++ enc m t) := by unfold enc; rw [List.flatMap_cons]; simp
    rw [e1, e2] at h
    injection h with _ h
    obtain ⟨c, r, ec, hc⟩ := enc_head l s
    obtain ⟨d, q, ed, hd⟩ := enc_head m t
    rw [ec, ed] at h
    obtain ⟨h1, h2, h3⟩ := cut hc hd _ _ (itoa_free v) (itoa_free u) h
    have := enc_inj l m s t (by rw [ec, ed, h2, h3])
    exact ⟨by rw [itoa_inj h1, this.1], this.2⟩
theorem key_inj {x y : NN} (h : keyL x = keyL y) : x = y := by
  have e : ∀ z : NN, keyL z = Lib.itoa z.op ++ enc (z.n :: z.l) z.s.data.toList := fun z => by unfold keyL enc; rw [List.append_assoc]
  rw [e, e] at h
  obtain ⟨c, r, ec, hc⟩ := enc_head (x.n :: x.l) x.s.data.toList
  obtain ⟨d, q, ed, hd⟩ := enc_head (y.n :: y.l) y.s.data.toList
  rw [ec, ed] at h
  obtain ⟨h1, h2, h3⟩ := cut hc hd _ _ (itoa_free _) (itoa_free _) h
  obtain ⟨h4, h5⟩ := enc_inj (x.n :: x.l) (y.n :: y.l) x.s.data.toList y.s.data.toList (by rw [ec, ed, h2, h3])
  injection h4 with h6 h7
  cases x; cases y
  simp only [NN.mk.injEq]
  refine ⟨itoa_inj h1, h6, ?_, h7⟩
  apply ByteArray.ext
  apply Array.ext'
  exact h5
end Go.Proofs.YthbfaledmoobjaaDoor
