/- pad.Unpad as a function; the law's 'live'. -/
import Derived.Test.YtejhphjilmpfkaaUnpad
import Derived.Test.YtejhphjilmpfkaaPlain2
namespace Go.Proofs.Ytejhphjilmpfkaa
open Go.RowKit

theorem unpad_of (l : List UInt8) (w : World) (e : Ending) (w' : World) (h : UnpadPost l w e w') :
    Below w.heap.size w w' ∧ match unpadL l with
      | some y => ∃ A' c', e = .returned (.tuple #[.slice A' y.length c', .int .i64 0]) ∧ Sl w' A' y.length c' (bv y)
      | none => e = .returned (.tuple #[.slice none 0 0, .int .i64 11]) := by
  obtain ⟨hb, h⟩ := h
  refine ⟨hb, ?_⟩
  rcases h with ⟨i, hi, hz, hx, h⟩ | ⟨hz, he⟩
  · rw [unpadL_at l i hi hz hx]
    have hl : (l.take i).length = i := by simp; omega
    rcases h with ⟨hg, A', c', he, hs⟩ | ⟨hg, he⟩
    · obtain ⟨g1, g2, g3⟩ := hg
      rw [List.getElem?_eq_getElem hi] at g1
      rw [if_pos ⟨Option.some.inj g1, g2, g3⟩]
      exact ⟨A', c', by rw [hl]; exact he, by rw [hl]; exact hs⟩
    · rw [if_neg (fun ⟨g1, g2, g3⟩ => hg ⟨by rw [List.getElem?_eq_getElem hi, g1], g2, g3⟩)]
      exact he
  · rw [unpadL_zero l hz]; exact he
theorem unpad_some (A : Option Addr) (n c : Nat) (l y : List UInt8) (w : World) (hs : Sl w A n c (bv l)) (hy : unpadL l = some y) :
    Calls Try.prog 11 #[.slice A n c] w fun e w' => ∃ A' c', e = .returned (.tuple #[.slice A' y.length c', .int .i64 0]) ∧ Sl w' A' y.length c' (bv y) ∧ Below w.heap.size w w' :=
  (unpad_rel A n c l w hs).mono fun e w' h => by
    obtain ⟨hb, h⟩ := unpad_of l w e w' h
    rw [hy] at h
    obtain ⟨A', c', he, h⟩ := h
    exact ⟨A', c', he, h, hb⟩
theorem unpad_none (A : Option Addr) (n c : Nat) (l : List UInt8) (w : World) (hs : Sl w A n c (bv l)) (hy : unpadL l = none) :
    Calls Try.prog 11 #[.slice A n c] w fun e w' => e = .returned (.tuple #[.slice none 0 0, .int .i64 11]) ∧ Below w.heap.size w w' :=
  (unpad_rel A n c l w hs).mono fun e w' h => by
    obtain ⟨hb, h⟩ := unpad_of l w e w' h
    rw [hy] at h
    exact ⟨h, hb⟩

theorem b31 : bk (Int.toNat 31) = 32 := by decide +kernel
theorem b32 : bk (Int.toNat 32) = 64 := by decide +kernel
theorem bucket31 (w : World) : Calls Try.prog 13 #[.int .i64 31] w fun e w' => e = .returned (.tuple #[.int .i64 32, .int .i64 0]) ∧ w = w' :=
  (bucket_mid 31 w (by omega) (by omega)).mono fun e w' ⟨h1, h2⟩ => ⟨by rw [h1]; first | (rw [b31]; rfl) | (rw [b32]; rfl), h2⟩
theorem bucket32 (w : World) : Calls Try.prog 13 #[.int .i64 32] w fun e w' => e = .returned (.tuple #[.int .i64 64, .int .i64 0]) ∧ w = w' :=
  (bucket_mid 32 w (by omega) (by omega)).mono fun e w' ⟨h1, h2⟩ => ⟨by rw [h1]; first | (rw [b31]; rfl) | (rw [b32]; rfl), h2⟩
theorem zeros_none (n : Nat) : unpadL (List.replicate n 0) = none := unpadL_zero _ (fun _ _ => List.getElem_replicate _)
def z32 : List UInt8 := List.replicate 32 0
theorem z32_cells : List.replicate 32 (Value.int .u8 0) = bv z32 := by simp [bv, z32]
theorem padA : padL [97] = 97 :: 128 :: List.replicate 30 0 := by
  have : bk 1 = 32 := by decide +kernel
  simp [padL, this]

set_option maxRecDepth 100000 in
theorem lead (w : World) : Calls Try.prog 7 #[] w fun e w' => e = .returned (.bool true) ∧ Below w.heap.size w w' := by
  go_enter Try.func7, Try.ntmps7
  go_wp2_with fail
  refine (bucket31 w).mono ?_; rintro e w' ⟨rfl, rfl⟩
  go_wp2_with fail
  refine (bucket32 w).mono ?_; rintro e w' ⟨rfl, rfl⟩
  go_wp2_with (at_make; refine wpList_mk E22 rfl rfl rfl 32 rfl rfl rfl rfl w.heap.size (Nat.le_refl _) (by omega) (by unfold maxLen; omega) ?_; intro w1 hO1 hG1 hB1; rw [z32_cells] at hO1)
  refine (unpad_none _ _ _ z32 w1 hO1.sl (zeros_none 32)).mono ?_
  rintro e w2 ⟨rfl, hB2⟩
  have kc := fun (w : World) (C : Array Value) (n c : Nat) => Lib.run_convert_bytes_const (P := Try.prog) w 22 5 C n c Try.underlying22 Try.underlying5
  go_wp2_with fail
  have hA : Sl (w2.alloc (.cells #[.int .u8 97] 5 (1, 2))) (some ⟨w2.heap.size, 0, none⟩) 1 1 (bv [97]) := ⟨rfl, by omega, by unfold maxLen; omega, lies_cells_fr _ _ _ _⟩
  refine (pad_ok _ _ _ [97] _ hA (by omega)).mono ?_
  rintro e w3 ⟨A', c', rfl, hS3, hB3⟩
  have hlen : (padL [97]).length = 32 := by rw [padA]; rfl
  rw [hlen] at hS3 ⊢
  obtain ⟨ad, hl0, rfl, hc0⟩ := hS3.byte (k := 0) (by omega)
  obtain ⟨ad1, hl1, he1, hc1⟩ := hS3.byte (k := 1) (by omega)
  obtain ⟨ad2, hl2, he2, hc2⟩ := hS3.byte (k := 2) (by omega)
  obtain rfl := Option.some.inj he1
  obtain rfl := Option.some.inj he2
  have hc0' : w3.cell? (ad.add 0) = some (.int .u8 97) := by rw [hc0]; simp only [padA]; rfl
  have hc00 : w3.cell? ad = some (.int .u8 97) := hc0'
  have hc1' : w3.cell? ⟨ad.block, ad.off + 1, none⟩ = some (.int .u8 128) := by rw [show (⟨ad.block, ad.off + 1, none⟩ : Addr) = ad.add 1 from rfl, hc1]; simp only [padA]; rfl
  have hc2' : w3.cell? ⟨ad.block, ad.off + 2, none⟩ = some (.int .u8 0) := by rw [show (⟨ad.block, ad.off + 2, none⟩ : Addr) = ad.add 2 from rfl, hc2]; simp only [padA]; rfl
  clear hc0 hc1 hc2 he1 he2 hl0 hl1 hl2
  go_wp2_with fail
  go_ret
  exact ⟨rfl, (((hB1.trans (hB2.mono hB1.size)).alloc (Nat.le_trans hB1.size hB2.size) _).trans (hB3.mono (by have := hB1.size; have := hB2.size; simp; omega)))⟩
end Go.Proofs.Ytejhphjilmpfkaa
