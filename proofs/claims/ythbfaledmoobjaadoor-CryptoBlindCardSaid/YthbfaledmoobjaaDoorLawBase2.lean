/- What verifying and checking answer, of terms that are known. -/
import Derived.Test.YthbfaledmoobjaaDoorLawBase
namespace Go.Proofs.YthbfaledmoobjaaDoor
open Go.RowKit

theorem part_lt {w : World} {base b : Nat} {ns : List NN} (h : AR w base b ns) {t v : Int} {x : NN} (ht : IsT ns t x) (hv : v ∈ x.l) : t ≠ v := by
  have := (h.may ht.2).has v hv
  unfold hasF at this
  simp at this
  have := ht.1
  omega
theorem verify_iff {ns : List NN} {pk sig sk s0 m0 m : Int} (hp : IsT ns pk (ofN 7 [sk])) (hs : IsT ns sig (ofN 10 [s0, m0])) : Verifies ns pk m sig ↔ sk = s0 ∧ m = m0 := by
  constructor
  · rintro ⟨p, s, k, h0, hpn, hpo, hpl, h1, hsn, hso, hsl⟩
    rw [hp.2] at hpn
    rw [hs.2] at hsn
    injection hpn with hpn
    injection hsn with hsn
    rw [← hpn] at hpl
    rw [← hsn] at hsl
    simp [ofN] at hpl hsl
    exact ⟨by rw [hpl, hsl.1], hsl.2.symm⟩
  · rintro ⟨rfl, rfl⟩
    exact ⟨_, _, sk, hp.1, hp.2, rfl, rfl, hs.1, hs.2, rfl, rfl⟩
theorem check_iff {ns : List NN} {k m tag k0 m0 : Int} (ht : IsT ns tag (ofN 11 [k0, m0])) : Checks ns k m tag ↔ k = k0 ∧ m = m0 := by
  constructor
  · rintro ⟨n, h0, hn, ho, hl⟩
    rw [ht.2] at hn
    injection hn with hn
    rw [← hn] at hl
    simp [ofN] at hl
    exact ⟨hl.1.symm, hl.2.symm⟩
  · rintro ⟨rfl, rfl⟩
    exact ⟨_, ht.1, ht.2, rfl, rfl⟩
theorem blp {Q : Prop} {W w' : World} {e : Ending} (h : BlP Q W e w') (r : Bool) (hr : r = true ↔ Q) : e = .returned (.bool r) ∧ Below W.heap.size W w' := by
  obtain ⟨r2, rfl, h2, hB⟩ := h
  have : r2 = r := by
    cases r <;> cases r2 <;> simp_all
  rw [this]
  exact ⟨rfl, hB⟩
/-- Verify at terms that are known -/
theorem verify_is {base b : Nat} {ns : List NN} {z : World} (h : AR z base b ns) (pk m sig : Int) (r : Bool) (hr : r = true ↔ Verifies ns pk m sig) (W : World) (hW : Below z.heap.size z W) :
    Calls Tryd.prog 14 #[.pointer (some ⟨b, 0, none⟩), .int .i64 pk, .int .i64 m, .int .i64 sig] W fun e w' => e = .returned (.bool r) ∧ Below W.heap.size W w' :=
  (verify_ok base b ns pk m sig W (h.below hW)).mono fun _ _ q => blp q r hr
theorem check_is {base b : Nat} {ns : List NN} {z : World} (h : AR z base b ns) (k m tag : Int) (r : Bool) (hr : r = true ↔ Checks ns k m tag) (W : World) (hW : Below z.heap.size z W) :
    Calls Tryd.prog 15 #[.pointer (some ⟨b, 0, none⟩), .int .i64 k, .int .i64 m, .int .i64 tag] W fun e w' => e = .returned (.bool r) ∧ Below W.heap.size W w' :=
  (check_ok base b ns k m tag W (h.below hW)).mono fun _ _ q => blp q r hr
theorem blinds_iff {ns : List NN} {bs bl s0 m0 d0 d sk m : Int} (hb : IsT ns bs (ofN 10 [s0, bl])) (hl : IsT ns bl (ofN 12 [m0, d0])) : Blinds ns bs d sk m ↔ sk = s0 ∧ m = m0 ∧ d = d0 := by
  constructor
  · rintro ⟨s, b2, bn, h0, hs, ho, hsl, h1, hbn, hbo, hbl⟩
    rw [hb.2] at hs
    injection hs with hs
    rw [← hs] at hsl
    simp [ofN] at hsl
    rw [← hsl.2, hl.2] at hbn
    injection hbn with hbn
    rw [← hbn] at hbl
    simp [ofN] at hbl
    exact ⟨hsl.1.symm, hbl.1.symm, hbl.2.symm⟩
  · rintro ⟨rfl, rfl, rfl⟩
    exact ⟨_, bl, _, hb.1, hb.2, rfl, rfl, hl.1, hl.2, rfl, rfl⟩
end Go.Proofs.YthbfaledmoobjaaDoor
