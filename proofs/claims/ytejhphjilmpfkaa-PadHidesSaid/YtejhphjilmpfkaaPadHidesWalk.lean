/- The walk of the law PadHides. -/
import Derived.Test.YtejhphjilmpfkaaSame
import Derived.Test.YtejhphjilmpfkaaBase3
namespace Go.Proofs.Ytejhphjilmpfkaa
open Go.RowKit

theorem sls_of {w : World} {xs : List Value} {bss : List (List UInt8)} (h : BL w xs bss) (hl : ∀ l ∈ bss, l.length ≤ 140737488355328) : Sls xs := fun v hv => by
  obtain ⟨j, hj⟩ := List.getElem?_of_mem hv
  obtain ⟨a, m, c, l, e1, e2, e3⟩ := h.2 j v hj
  refine ⟨a, m, c, e1, ?_⟩
  have := e3.len; rw [bv_length] at this
  have := hl l (List.mem_of_getElem? e2)
  omega
/-- what Bucket and Pad tell of one text -/
def Tells (A : Option Addr) (n c : Nat) (a : List UInt8) (e1 x1 : Int) (M1 : Nat) : Prop :=
  (∀ W, Calls Try.prog 13 #[.int .i64 (n : Int)] W fun e w' => e = .returned (.tuple #[.int .i64 x1, .int .i64 e1]) ∧ W = w') ∧
  (∀ W, Sl W A n c (bv a) → Calls Try.prog 9 #[.slice A n c] W fun e w' => ∃ A' c', e = .returned (.tuple #[.slice A' M1 c', .int .i64 e1]) ∧ Below W.heap.size W w')
theorem tells (A : Option Addr) (n c : Nat) (a : List UInt8) (hl : a.length = n) (ht : n ≤ maxLen) :
    ∃ (e1 x1 : Int) (M1 : Nat), Hid (Tells A n c a e1 x1 M1) ∧ ((e1 = 0 ∧ x1 = (M1 : Int) ∧ n < 65536 ∧ M1 = bk n) ∨ (e1 = 2 ∧ 65536 ≤ n)) := by
  by_cases hn : n < 65536
  · refine ⟨0, (bk n : Nat), bk n, ⟨fun W => bucket_nat n W hn, fun W h => ?_⟩, .inl ⟨rfl, rfl, hn, rfl⟩⟩
    exact (pad_ok A n c a W h hn).mono fun e w' ⟨A', c', h1, _, h3⟩ => ⟨A', c', by rw [h1, padL_length a (by omega), hl], h3⟩
  · refine ⟨2, 0, 0, ⟨fun W => bucket_big n W (by omega), fun W _ => ?_⟩, .inr ⟨rfl, by omega⟩⟩
    exact (pad_no A n c W (by omega) ht).mono fun e w' ⟨h1, h2⟩ => ⟨none, 0, h1, by subst h2; exact Below.refl _ _⟩
theorem lens_two (A B : Option Addr) (n c m d : Nat) : lens [.slice A n c, .slice B m d] = [n, m] := rfl
theorem same_two (A B : Option Addr) (n c m d : Nat) (w : World) (hn : n ≤ 140737488355328) (hm : m ≤ 140737488355328) :
    Calls Try.prog 15 #[.slice (some ⟨w.heap.size, 0, none⟩) 2 2] (w.alloc (.cells #[.slice A n c, .slice B m d] 22)) fun e w' => e = .returned (.bool (sameB [n, m])) ∧ Below w.heap.size w w' :=
  (same_any (some ⟨w.heap.size, 0, none⟩) 2 2 [.slice A n c, .slice B m d] _ ⟨rfl, by omega, by unfold maxLen; omega, lies_cells w #[.slice A n c, .slice B m d] 22⟩ (fun v hv => by
    simp only [List.mem_cons, List.not_mem_nil, or_false] at hv
    rcases hv with rfl | rfl
    · exact ⟨A, n, c, rfl, hn⟩
    · exact ⟨B, m, d, rfl, hm⟩) (by omega)).mono fun e w' ⟨h1, h2⟩ => ⟨h1, ((Below.refl _ w).alloc (Nat.le_refl _) _).trans (h2.mono (by simp))⟩
theorem same_one (A : Option Addr) (n c : Nat) (w : World) (hn : n ≤ 140737488355328) :
    Calls Try.prog 15 #[.slice (some ⟨w.heap.size, 0, none⟩) 1 1] (w.alloc (.cells #[.slice A n c] 22)) fun e w' => e = .returned (.bool (sameB [n])) ∧ Below w.heap.size w w' :=
  (same_any (some ⟨w.heap.size, 0, none⟩) 1 1 [.slice A n c] _ ⟨rfl, by omega, by unfold maxLen; omega, lies_cells w #[.slice A n c] 22⟩ (fun v hv => by
    rw [List.mem_singleton] at hv; exact ⟨A, n, c, hv, hn⟩) (by omega)).mono fun e w' ⟨h1, h2⟩ => ⟨h1, ((Below.refl _ w).alloc (Nat.le_refl _) _).trans (h2.mono (by simp))⟩

set_option maxRecDepth 100000 in
set_option maxHeartbeats 4000000 in
theorem hidesWalk (A : Option Addr) (n c : Nat) (a : List UInt8) (B : Option Addr) (m d : Nat) (b : List UInt8) (C : Option Addr) (p q : Nat) (xs : List Value) (w : World) (h : Sl w A n c (bv a)) (k : Sl w B m d (bv b)) (r : Sl w C p q xs) (hs : Sls xs) (hn : n ≤ 140737488355328) (hm : m ≤ 140737488355328) :
    Calls Try.prog 6 #[.slice A n c, .slice B m d, .slice C p q] w fun e w' => e = .returned (.bool true) ∧ Below w.heap.size w w' := by
  have HN := Lib.hid (And.intro hn hm); clear hn hm
  have Hl := Lib.hid (show a.length = n by have := h.len; rwa [bv_length] at this)
  have Kl := Lib.hid (show b.length = m by have := k.len; rwa [bv_length] at this)
  by_cases hbig : 300000 < (n : Int) + m + 2
  · have HB := Lib.hid hbig; clear hbig
    go_enter Try.func6, Try.ntmps6
    go_wp2_with (first
      | (go_at_call 7; refine (lead w).mono ?_; rintro e w1 ⟨rfl, hB1⟩)
      | (go_at_call 8; refine (big2_yes A n c B m d w1 HN.out.1 HN.out.2 (by have := HB.out; omega)).mono ?_; rintro e w' ⟨rfl, rfl⟩))
    go_ret
    exact ⟨rfl, nxa hB1 _⟩
  · have HB := Lib.hid hbig; clear hbig
    obtain ⟨v, hv⟩ : ∃ v, decide (300000 < bigR xs) = v := ⟨_, rfl⟩
    have hcl := fun W (hW : Sl W C p q xs) => big_any C p q xs W hW hs
    simp only [hv] at hcl
    have HC := Lib.hid hcl; clear hcl hv
    by_cases hv1 : v = true
    · subst hv1
      go_enter Try.func6, Try.ntmps6
      go_wp2_with fail
      refine (lead w).mono ?_; rintro e w1 ⟨rfl, hB1⟩
      go_wp2_with fail
      refine (big2_no A n c B m d w1 HN.out.1 HN.out.2 (by have := HB.out; omega)).mono ?_; clear HN HB; rintro e w' ⟨rfl, rfl⟩
      go_wp2_with fail
      refine (HC.out _ ((r.below hB1).alloc _)).mono ?_; rintro e w' ⟨rfl, rfl⟩
      go_wp2_with fail
      go_ret
      exact ⟨rfl, nxa hB1 _⟩
    · obtain rfl : v = false := by simpa using hv1
      clear hv1
      by_cases hp : p ≤ 100
      · have hp2 : (p : Int) ≤ 100 := by omega
        have HP := Lib.hid hp; clear hp
        obtain ⟨e1, x1, M1, T1, hc1⟩ := tells A n c a Hl.out (Nat.le_trans h.cap h.top)
        obtain ⟨e2, x2, M2, T2, hc2⟩ := tells B m d b Kl.out (Nat.le_trans k.cap k.top)
        have hsame : sameB [n, m] = (e1 == 0 && e2 == 0 && (M1 : Int) == (M2 : Int)) ∧ sameB [n] = (e1 == 0) := by
          constructor
          · rcases hc1 with ⟨rfl, _, h1, h2⟩ | ⟨rfl, h1⟩ <;> rcases hc2 with ⟨rfl, _, h3, h4⟩ | ⟨rfl, h3⟩ <;> rw [Bool.eq_iff_iff] <;> simp [sameB, *] <;> first | omega | (constructor <;> intro h <;> omega)
          · rcases hc1 with ⟨rfl, _, h1, h2⟩ | ⟨rfl, h1⟩ <;> simp [sameB, *]
        obtain ⟨s2, hs2⟩ : ∃ s2, sameB [n, m] = s2 := ⟨_, rfl⟩
        obtain ⟨s1, hs1⟩ : ∃ s1, sameB [n] = s1 := ⟨_, rfl⟩
        have hst := fun W => same_two A B n c m d W HN.out.1 HN.out.2
        have hso := fun W => same_one A n c W HN.out.1
        simp only [hs2] at hst
        simp only [hs1] at hso
        rw [hs2, hs1] at hsame
        have HS2 := Lib.hid hst; have HS1 := Lib.hid hso; clear hst hso hs2 hs1
        have hr := fun W (hW : Sl W C p q xs) => same_any C p q xs W hW hs (by have := HP.out; omega)
        have hrr := fun W (hW : Sl W C p q xs) => rsame_any C p q xs W hW hs
        have h0 := fun W => same_any none 0 0 [] W (Sl.none W) (fun v hv => by simp at hv) (by omega)
        have HR := Lib.hid hr; have HRR := Lib.hid hrr; have H0 := Lib.hid h0; clear hr hrr h0
        obtain ⟨hsa, hsb⟩ := hsame
        have hf : (lens ([] : List Value)) = [] := rfl
        rw [hf] at H0
        have hT : sameB [] = true := rfl
        rw [hT] at H0
        clear hf hT
        rcases hc1 with ⟨rfl, rfl, h1, h2⟩ | ⟨rfl, h1⟩
        · rcases hc2 with ⟨rfl, rfl, h3, h4⟩ | ⟨rfl, h3⟩
          · simp only [beq_self_eq_true, Bool.true_and, Bool.and_true] at hsa hsb
            subst hsa; subst hsb
            clear h1 h2 h3 h4
            go_enter Try.func6, Try.ntmps6
            go_wp2_with fail
            refine (lead w).mono ?_; rintro e w1 ⟨rfl, hB1⟩
            go_wp2_with fail
            refine (big2_no A n c B m d w1 HN.out.1 HN.out.2 (by have := HB.out; omega)).mono ?_; clear HN HB; rintro e w' ⟨rfl, rfl⟩
            go_wp2_with fail
            refine (HC.out _ ((r.below hB1).alloc _)).mono ?_; rintro e w' ⟨rfl, rfl⟩
            go_wp2_with fail
            refine (T1.out.1 _).mono ?_; rintro e w' ⟨rfl, rfl⟩
            go_wp2_with fail
            refine (T2.out.1 _).mono ?_; rintro e w' ⟨rfl, rfl⟩
            go_wp2_with fail
            refine (T1.out.2 _ ((h.below hB1).alloc _)).mono ?_; rintro e w2 ⟨A2, c2, rfl, hB2⟩
            go_wp2_with fail
            refine (T2.out.2 _ (((k.below hB1).alloc _).below hB2)).mono ?_; rintro e w3 ⟨A3, c3, rfl, hB3⟩
            go_wp2_with fail
            refine (HS2.out _).mono ?_; rintro e w4 ⟨rfl, hB4⟩
            go_wp2_with fail
            refine (HR.out _ (((((r.below hB1).alloc _).below hB2).below hB3).below hB4)).mono ?_; rintro e w5 ⟨rfl, hB5⟩
            go_wp2_with fail
            refine (HRR.out _ ((((((r.below hB1).alloc _).below hB2).below hB3).below hB4).below hB5)).mono ?_; rintro e w' ⟨rfl, rfl⟩
            go_wp2_with fail
            refine (HS1.out _).mono ?_; rintro e w6 ⟨rfl, hB6⟩
            go_wp2_with fail
            refine (H0.out _).mono ?_; rintro e w7 ⟨rfl, hB7⟩
            go_wp2_with fail
            go_ret
            exact ⟨rfl, nx (nx (nx (nx (nx (nx (nxa hB1 _) hB2) hB3) hB4) hB5) hB6) hB7⟩
          · simp only [beq_self_eq_true, Bool.true_and, show ((2 : Int) == 0) = false from rfl, Bool.false_and] at hsa hsb
            subst hsa; subst hsb
            clear h1 h2 h3
            go_enter Try.func6, Try.ntmps6
            go_wp2_with fail
            refine (lead w).mono ?_; rintro e w1 ⟨rfl, hB1⟩
            go_wp2_with fail
            refine (big2_no A n c B m d w1 HN.out.1 HN.out.2 (by have := HB.out; omega)).mono ?_; clear HN HB; rintro e w' ⟨rfl, rfl⟩
            go_wp2_with fail
            refine (HC.out _ ((r.below hB1).alloc _)).mono ?_; rintro e w' ⟨rfl, rfl⟩
            go_wp2_with fail
            refine (T1.out.1 _).mono ?_; rintro e w' ⟨rfl, rfl⟩
            go_wp2_with fail
            refine (T2.out.1 _).mono ?_; rintro e w' ⟨rfl, rfl⟩
            go_wp2_with fail
            refine (T1.out.2 _ ((h.below hB1).alloc _)).mono ?_; rintro e w2 ⟨A2, c2, rfl, hB2⟩
            go_wp2_with fail
            refine (T2.out.2 _ (((k.below hB1).alloc _).below hB2)).mono ?_; rintro e w3 ⟨A3, c3, rfl, hB3⟩
            go_wp2_with fail
            refine (HS2.out _).mono ?_; rintro e w4 ⟨rfl, hB4⟩
            go_wp2_with fail
            refine (HR.out _ (((((r.below hB1).alloc _).below hB2).below hB3).below hB4)).mono ?_; rintro e w5 ⟨rfl, hB5⟩
            go_wp2_with fail
            refine (HRR.out _ ((((((r.below hB1).alloc _).below hB2).below hB3).below hB4).below hB5)).mono ?_; rintro e w' ⟨rfl, rfl⟩
            go_wp2_with fail
            refine (HS1.out _).mono ?_; rintro e w6 ⟨rfl, hB6⟩
            go_wp2_with fail
            refine (H0.out _).mono ?_; rintro e w7 ⟨rfl, hB7⟩
            go_wp2_with fail
            go_ret
            exact ⟨rfl, nx (nx (nx (nx (nx (nx (nxa hB1 _) hB2) hB3) hB4) hB5) hB6) hB7⟩
        · rcases hc2 with ⟨rfl, rfl, h3, h4⟩ | ⟨rfl, h3⟩
          · simp only [show ((2 : Int) == 0) = false from rfl, Bool.false_and] at hsa hsb
            subst hsa; subst hsb
            clear h1 h3 h4
            go_enter Try.func6, Try.ntmps6
            go_wp2_with fail
            refine (lead w).mono ?_; rintro e w1 ⟨rfl, hB1⟩
            go_wp2_with fail
            refine (big2_no A n c B m d w1 HN.out.1 HN.out.2 (by have := HB.out; omega)).mono ?_; clear HN HB; rintro e w' ⟨rfl, rfl⟩
            go_wp2_with fail
            refine (HC.out _ ((r.below hB1).alloc _)).mono ?_; rintro e w' ⟨rfl, rfl⟩
            go_wp2_with fail
            refine (T1.out.1 _).mono ?_; rintro e w' ⟨rfl, rfl⟩
            go_wp2_with fail
            refine (T2.out.1 _).mono ?_; rintro e w' ⟨rfl, rfl⟩
            go_wp2_with fail
            refine (T1.out.2 _ ((h.below hB1).alloc _)).mono ?_; rintro e w2 ⟨A2, c2, rfl, hB2⟩
            go_wp2_with fail
            refine (T2.out.2 _ (((k.below hB1).alloc _).below hB2)).mono ?_; rintro e w3 ⟨A3, c3, rfl, hB3⟩
            go_wp2_with fail
            refine (HS2.out _).mono ?_; rintro e w4 ⟨rfl, hB4⟩
            go_wp2_with fail
            refine (HR.out _ (((((r.below hB1).alloc _).below hB2).below hB3).below hB4)).mono ?_; rintro e w5 ⟨rfl, hB5⟩
            go_wp2_with fail
            refine (HRR.out _ ((((((r.below hB1).alloc _).below hB2).below hB3).below hB4).below hB5)).mono ?_; rintro e w' ⟨rfl, rfl⟩
            go_wp2_with fail
            refine (HS1.out _).mono ?_; rintro e w6 ⟨rfl, hB6⟩
            go_wp2_with fail
            refine (H0.out _).mono ?_; rintro e w7 ⟨rfl, hB7⟩
            go_wp2_with fail
            go_ret
            exact ⟨rfl, nx (nx (nx (nx (nx (nx (nxa hB1 _) hB2) hB3) hB4) hB5) hB6) hB7⟩
          · simp only [show ((2 : Int) == 0) = false from rfl, Bool.false_and] at hsa hsb
            subst hsa; subst hsb
            clear h1 h3
            go_enter Try.func6, Try.ntmps6
            go_wp2_with fail
            refine (lead w).mono ?_; rintro e w1 ⟨rfl, hB1⟩
            go_wp2_with fail
            refine (big2_no A n c B m d w1 HN.out.1 HN.out.2 (by have := HB.out; omega)).mono ?_; clear HN HB; rintro e w' ⟨rfl, rfl⟩
            go_wp2_with fail
            refine (HC.out _ ((r.below hB1).alloc _)).mono ?_; rintro e w' ⟨rfl, rfl⟩
            go_wp2_with fail
            refine (T1.out.1 _).mono ?_; rintro e w' ⟨rfl, rfl⟩
            go_wp2_with fail
            refine (T2.out.1 _).mono ?_; rintro e w' ⟨rfl, rfl⟩
            go_wp2_with fail
            refine (T1.out.2 _ ((h.below hB1).alloc _)).mono ?_; rintro e w2 ⟨A2, c2, rfl, hB2⟩
            go_wp2_with fail
            refine (T2.out.2 _ (((k.below hB1).alloc _).below hB2)).mono ?_; rintro e w3 ⟨A3, c3, rfl, hB3⟩
            go_wp2_with fail
            refine (HS2.out _).mono ?_; rintro e w4 ⟨rfl, hB4⟩
            go_wp2_with fail
            refine (HR.out _ (((((r.below hB1).alloc _).below hB2).below hB3).below hB4)).mono ?_; rintro e w5 ⟨rfl, hB5⟩
            go_wp2_with fail
            refine (HRR.out _ ((((((r.below hB1).alloc _).below hB2).below hB3).below hB4).below hB5)).mono ?_; rintro e w' ⟨rfl, rfl⟩
            go_wp2_with fail
            refine (HS1.out _).mono ?_; rintro e w6 ⟨rfl, hB6⟩
            go_wp2_with fail
            refine (H0.out _).mono ?_; rintro e w7 ⟨rfl, hB7⟩
            go_wp2_with fail
            go_ret
            exact ⟨rfl, nx (nx (nx (nx (nx (nx (nxa hB1 _) hB2) hB3) hB4) hB5) hB6) hB7⟩
      · have hp2 : 100 < (p : Int) := by omega
        clear hp
        go_enter Try.func6, Try.ntmps6
        go_wp2_with fail
        refine (lead w).mono ?_; rintro e w1 ⟨rfl, hB1⟩
        go_wp2_with fail
        refine (big2_no A n c B m d w1 HN.out.1 HN.out.2 (by have := HB.out; omega)).mono ?_; clear HN HB; rintro e w' ⟨rfl, rfl⟩
        go_wp2_with fail
        refine (HC.out _ ((r.below hB1).alloc _)).mono ?_; rintro e w' ⟨rfl, rfl⟩
        go_wp2_with fail
        go_ret
        exact ⟨rfl, nxa hB1 _⟩
theorem padHides_walk (A : Option Addr) (n c : Nat) (zs : List Int) (B : Option Addr) (m d : Nat) (ys : List Int) (C : Option Addr) (p q : Nat) (xs : List Value) (bss : List (List UInt8)) (w : World) (h : IsRow .u8 w A n c zs) (hn : n * 1 ≤ 140737488351232) (k : IsRow .u8 w B m d ys) (hm : m * 1 ≤ 140737488351232)
    (r : Sl w C p q xs) (hb : BL w xs bss) (hr : bss.length * 24 ≤ 140737488351232 ∧ ∀ l ∈ bss, l.length * 1 ≤ 140737488351232) :
    Calls Try.prog 6 #[.slice A n c, .slice B m d, .slice C p q] w fun e w' => e = .returned (.bool true) ∧ Below w.heap.size w w' := by
  obtain ⟨l, hs, _⟩ := h.bytes
  obtain ⟨l', ks, _⟩ := k.bytes
  exact hidesWalk A n c l B m d l' C p q xs w hs ks r (sls_of hb (fun l hl => by have := hr.2 l hl; omega)) (by omega) (by omega)
end Go.Proofs.Ytejhphjilmpfkaa
