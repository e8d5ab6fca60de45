/- Walks of pad.Bucket, slices.Clone, pad.Pad. -/
import Derived.Test.YtejhphjilmpfkaaBase2
import Derived.Test.YtejhphjilmpfkaaPlain
import Derived.Test.YtejhphjilmpfkaaLen
import Derived.WalkSpells
namespace Go.Proofs.Ytejhphjilmpfkaa
open Go.RowKit

theorem bk_wrap (n : Nat) (h : n < 65536) : max 32 (wrap64 (2 ^ min (Lib.bitLen n) 64)) = ((bk n : Nat) : Int) := by
  have h1 := bitLen16 n h
  rw [Nat.min_eq_left (by omega)]
  have h2 : 2 ^ Lib.bitLen n ≤ 2 ^ 16 := Nat.pow_le_pow_right (by omega) h1
  have h3 : ((2 : Int) ^ Lib.bitLen n) = ((2 ^ Lib.bitLen n : Nat) : Int) := by simp
  rw [h3]
  generalize hx : 2 ^ Lib.bitLen n = x at *
  have : wrap64 (x : Int) = x := by unfold wrap64; omega
  rw [this]; unfold bk; rw [hx]; omega

theorem bucket_mid (n : Int) (w : World) (h0 : 0 ≤ n) (h1 : n < 65536) :
    Calls Try.prog 13 #[.int .i64 n] w fun e w' => e = .returned (.tuple #[.int .i64 (bk n.toNat : Nat), .int .i64 0]) ∧ w = w' := by
  have hw := Lib.hid (bk_wrap n.toNat (by omega))
  go_enter Try.func13, Try.ntmps13
  go_wp2_with (go_at_call 19; refine (len_ _ _ (by omega) (by omega)).mono ?_; rintro e w' ⟨rfl, rfl⟩)
  go_ret2
  rw [hw.out]; exact ⟨rfl, rfl⟩
theorem bucket_neg (n : Int) (w : World) (h0 : n < 0) :
    Calls Try.prog 13 #[.int .i64 n] w fun e w' => e = .returned (.tuple #[.int .i64 0, .int .i64 1]) ∧ w = w' := by
  go_enter Try.func13, Try.ntmps13
  go_wp2_with fail
  go_ret2
  exact ⟨rfl, rfl⟩
theorem bucket_big (n : Int) (w : World) (h1 : 65536 ≤ n) :
    Calls Try.prog 13 #[.int .i64 n] w fun e w' => e = .returned (.tuple #[.int .i64 0, .int .i64 2]) ∧ w = w' := by
  go_enter Try.func13, Try.ntmps13
  go_wp2_with fail
  go_ret2
  exact ⟨rfl, rfl⟩


theorem E22 : Elem Try.prog 22 5 (.int .u8 0) 1 1 := ⟨Try.underlying22, by kernel_rfl, rfl, by omega⟩
theorem clone (A : Option Addr) (n c : Nat) (xs : List Value) (w : World) (h : Sl w A n c xs) (h1 : ∀ u ∈ xs, u.oneCell' = true) (hn : n ≤ 140737488355328) :
    Calls Try.prog 18 #[.slice A n c] w fun e w' => ∃ A' c', e = .returned (.slice A' n c') ∧ Ow w' w.heap.size 5 1 A' n c' xs ∧ Below w.heap.size w w' := by
  have q := fun (w : World) => Lib.run_eql_slice_nil (P := Try.prog) w 22 5 A n c 0 0 Try.underlying22
  have hl := h.len
  rcases A with _ | ad
  · have h0 : xs = [] := by
      rcases h.lies with e | ⟨ad, e, _⟩
      · exact e
      · cases e
    subst h0
    obtain rfl : n = 0 := by simpa using hl.symm
    clear h1 h hl
    go_enter Try.func18, Try.ntmps18
    go_wp2_with fail
    go_ret
    exact ⟨_, _, rfl, Ow.nil _ _ _ _, Below.refl _ _⟩
  · have H := Lib.hid hl; clear hl
    have hn2 : n ≤ maxLen := by unfold maxLen; omega
    go_enter Try.func18, Try.ntmps18
    go_wp2_with (at_builtin; refine wpList_app E22 rfl rfl rfl (World.ownsRow_made w #[] 0 (Nat.le_refl _) (by simp) rfl) rfl (h.lies.alloc _) (by rw [H.out, Nat.mul_one]) h1 (by omega) (by omega) (by simp) ?_; intro A' c' w' hO hG hB)
    go_ret
    refine ⟨A', c', ?_, ?_, ?_⟩
    · simp
    · simpa using hO
    · exact ((Below.refl _ w).alloc (Nat.le_refl _) _).trans hB

theorem pad_ok (A : Option Addr) (n c : Nat) (l : List UInt8) (w : World) (h : Sl w A n c (bv l)) (hn : n < 65536) :
    Calls Try.prog 9 #[.slice A n c] w fun e w' => ∃ A' c', e = .returned (.tuple #[.slice A' (padL l).length c', .int .i64 0]) ∧ Sl w' A' (padL l).length c' (bv (padL l)) ∧ Below w.heap.size w w' := by
  have hl := h.len
  rw [bv_length] at hl
  have h1 := lt_bk n hn
  have h2 := bk_le n hn
  have h3 := Lib.hid (padL_length l (by omega))
  have h4 := Lib.hid (pad_cells l (by omega))
  have H := Lib.hid hl; clear hl
  obtain ⟨m, hm⟩ : ∃ m, m = bk n := ⟨_, rfl⟩
  rw [← hm] at h1 h2
  have Hm := Lib.hid hm; clear hm
  go_enter Try.func9, Try.ntmps9
  go_wp2_with (first
    | (go_at_call 13; refine (bucket_mid _ _ (by omega) (by omega)).mono ?_; rw [Int.toNat_natCast, ← Hm.out]; rintro e w' ⟨rfl, rfl⟩)
    | (at_make; refine wpList_mk E22 rfl rfl rfl m rfl rfl rfl rfl w.heap.size (Nat.le_refl _) (by omega) (by unfold maxLen; omega) ?_; intro w1 hO1 hG1 hB1)
    | (with_reducible refine wpList_copy (o := ⟨some 21, _, _, _, _, _⟩) E22 rfl rfl (by with_unfolding_all rfl) hO1 (by with_unfolding_all rfl) (h.lies.below hB1) (by rw [bv_length, H.out]) (by omega) (bv_one l) ?_; intro w2 hO2 hG2 hB2; have hc2 := Ow.cell hO2 (j := n) (u := .int .u8 0) (by rw [List.getElem?_append_right (by simp [H.out]), bv_length, H.out, Nat.sub_self, List.getElem?_drop, List.getElem?_replicate, if_pos (by omega)]); have hf2 := Ow.frz hO2 n))
  go_ret2
  have hO3 := hO2.set_ n (.int .u8 128)
  have e3 : (bv l ++ List.drop n (List.replicate m (Value.int IntKind.u8 0))).set n (.int .u8 128) = bv (padL l) := by
    have := h4.out; rw [H.out] at this; rw [Hm.out]; exact this
  have e4 : (padL l).length = m := by rw [h3.out, Hm.out, H.out]
  rw [e3] at hO3
  rw [e4]
  refine ⟨_, _, rfl, hO3.sl, ((hB1.trans hB2).setCell (Nat.le_refl _) _)⟩

theorem pad_no (A : Option Addr) (n c : Nat) (w : World) (hn : 65536 ≤ n) (h2 : n ≤ maxLen) :
    Calls Try.prog 9 #[.slice A n c] w fun e w' => e = .returned (.tuple #[.slice none 0 0, .int .i64 2]) ∧ w = w' := by
  unfold maxLen at h2
  go_enter Try.func9, Try.ntmps9
  go_wp2_with (go_at_call 13; refine (bucket_big _ _ (by omega)).mono ?_; rintro e w' ⟨rfl, rfl⟩)
  go_ret2
  exact ⟨rfl, rfl⟩
end Go.Proofs.Ytejhphjilmpfkaa
