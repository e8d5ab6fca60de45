/- The walks of math.Left, Right, Path, Copath, Common. -/
import Derived.Test.YtieeinppoiihpaaDoorNodes2
namespace Go.Proofs.YtieeinppoiihpaaDoor
open Go.RowKit

theorem E23 : Elem Tryd.prog 23 3 (.int .i64 0) 1 8 := ⟨Tryd.underlying23, by kernel_rfl, rfl, by omega⟩
theorem level_q (x n : Nat) (w : World) (hx : x < 511) (hT : Tab w) : Calls Tryd.prog 53 #[.int .i64 (x : Int)] (w.drewN n) fun e w' => e = .returned (.int .i64 (lev x : Nat)) ∧ ∃ m, w' = w.drewN m :=
  Calls.quiet_of_same ((level_ok x (w.drewN n) hx (hT.drewN n)).mono fun _ _ ⟨a, b⟩ => ⟨a, b.symm⟩)
theorem left_ok (x : Nat) (w : World) (hx : x < 511) (ho : x % 2 = 1) (hT : Tab w) :
    Calls Tryd.prog 18 #[.int .i64 (x : Int)] w fun e w' => e = .returned (.tuple #[.int .i64 (leftN x : Nat), .int .i64 0]) ∧ Below w.heap.size w w' := by
  have H1 := Lib.hid (fun W => any1_yes x W hx)
  have H2 := Lib.hid (fun W n hW => level_q x n W hx hW)
  have f := nodes_all (p := fun x => x % 2 == 0 || (bits .and .i64 (x : Int) 1 == 1 && bits .xor .i64 (x : Int) (wrap64 (1 * 2 ^ (lev x - 1))) == (leftN x : Nat) && decide (1 ≤ lev x))) (by kernel_rfl) hx
  simp only [Bool.and_eq_true, Bool.or_eq_true, beq_iff_eq, decide_eq_true_eq] at f
  have f' := f.resolve_left (by omega)
  obtain ⟨⟨f1, f2⟩, f3⟩ := f'
  have hl := lev_le hx
  obtain ⟨k, hk⟩ : ∃ k, lev x = k := ⟨_, rfl⟩
  rw [hk] at H2 f2 f3 hl
  obtain ⟨j, rfl⟩ : ∃ j, k = j + 1 := ⟨k - 1, by omega⟩
  simp only [Nat.add_sub_cancel, Int.one_mul] at f2
  have F2 := Lib.hid f2
  clear f f2 hk
  go_enter Tryd.func18, Tryd.ntmps18
  go_wp2_with (first
    | (go_at_call 52; refine (H1.out _).mono ?_; rintro e w' ⟨rfl, rfl⟩)
    | (go_at_call 53; fail)
    | go_in)
  go_quiet (first | (go_at_call 53; exact H2.out _ _ (hT.alloc _)))
  go_wp2_with fail
  go_ret2
  exact ⟨by rw [← F2.out]; rfl, below_drewN (bx0 _) _⟩
theorem left_no (x : Int) (w : World) (hx : x < 0 ∨ 510 < x ∨ (0 ≤ x ∧ x ≤ 510 ∧ x % 2 = 0)) :
    Calls Tryd.prog 18 #[.int .i64 x] w fun e w' => e = .returned (.tuple #[.int .i64 0, .int .i64 1]) ∧ Below w.heap.size w w' := by
  by_cases hy : x < 0 ∨ 510 < x
  · have H1 := Lib.hid (fun W => any1_no x W hy)
    clear hx hy
    go_enter Tryd.func18, Tryd.ntmps18
    go_wp2_with (first
      | (go_at_call 52; refine (H1.out _).mono ?_; rintro e w' ⟨rfl, rfl⟩)
      | go_in)
    go_ret2
    exact ⟨rfl, bx0 _⟩
  · obtain ⟨m, rfl⟩ : ∃ m : Nat, x = m := ⟨x.toNat, by omega⟩
    have H1 := Lib.hid (fun W => any1_yes m W (by omega))
    have f := nodes_all (p := fun x => x % 2 == 1 || bits .and .i64 (x : Int) 1 == 0) (by kernel_rfl) (show m < 511 by omega)
    simp only [Bool.or_eq_true, beq_iff_eq] at f
    have f' := f.resolve_left (by omega)
    clear hx hy f
    go_enter Tryd.func18, Tryd.ntmps18
    go_wp2_with (first
      | (go_at_call 52; refine (H1.out _).mono ?_; rintro e w' ⟨rfl, rfl⟩)
      | go_in)
    go_ret2
    exact ⟨rfl, bx0 _⟩
theorem right_ok (x : Nat) (w : World) (hx : x < 511) (ho : x % 2 = 1) (hT : Tab w) :
    Calls Tryd.prog 19 #[.int .i64 (x : Int)] w fun e w' => e = .returned (.tuple #[.int .i64 (rightN x : Nat), .int .i64 0]) ∧ Below w.heap.size w w' := by
  have H1 := Lib.hid (fun W => any1_yes x W hx)
  have H2 := Lib.hid (fun W n hW => level_q x n W hx hW)
  have f := nodes_all (p := fun x => x % 2 == 0 || (bits .and .i64 (x : Int) 1 == 1 && bits .xor .i64 (x : Int) (wrap64 (3 * 2 ^ (lev x - 1))) == (rightN x : Nat) && decide (1 ≤ lev x))) (by kernel_rfl) hx
  simp only [Bool.and_eq_true, Bool.or_eq_true, beq_iff_eq, decide_eq_true_eq] at f
  have f' := f.resolve_left (by omega)
  obtain ⟨⟨f1, f2⟩, f3⟩ := f'
  have hl := lev_le hx
  obtain ⟨k, hk⟩ : ∃ k, lev x = k := ⟨_, rfl⟩
  rw [hk] at H2 f2 f3 hl
  obtain ⟨j, rfl⟩ : ∃ j, k = j + 1 := ⟨k - 1, by omega⟩
  have F2 := Lib.hid f2
  clear f f2 hk
  go_enter Tryd.func19, Tryd.ntmps19
  go_wp2_with (first
    | (go_at_call 52; refine (H1.out _).mono ?_; rintro e w' ⟨rfl, rfl⟩)
    | (go_at_call 53; fail)
    | go_in)
  go_quiet (first | (go_at_call 53; exact H2.out _ _ (hT.alloc _)))
  go_wp2_with fail
  go_ret2
  exact ⟨by rw [← F2.out]; rfl, below_drewN (bx0 _) _⟩
theorem right_no (x : Int) (w : World) (hx : x < 0 ∨ 510 < x ∨ (0 ≤ x ∧ x ≤ 510 ∧ x % 2 = 0)) :
    Calls Tryd.prog 19 #[.int .i64 x] w fun e w' => e = .returned (.tuple #[.int .i64 0, .int .i64 1]) ∧ Below w.heap.size w w' := by
  by_cases hy : x < 0 ∨ 510 < x
  · have H1 := Lib.hid (fun W => any1_no x W hy)
    clear hx hy
    go_enter Tryd.func19, Tryd.ntmps19
    go_wp2_with (first
      | (go_at_call 52; refine (H1.out _).mono ?_; rintro e w' ⟨rfl, rfl⟩)
      | go_in)
    go_ret2
    exact ⟨rfl, bx0 _⟩
  · obtain ⟨m, rfl⟩ : ∃ m : Nat, x = m := ⟨x.toNat, by omega⟩
    have H1 := Lib.hid (fun W => any1_yes m W (by omega))
    have f := nodes_all (p := fun x => x % 2 == 1 || bits .and .i64 (x : Int) 1 == 0) (by kernel_rfl) (show m < 511 by omega)
    simp only [Bool.or_eq_true, beq_iff_eq] at f
    have f' := f.resolve_left (by omega)
    clear hx hy f
    go_enter Tryd.func19, Tryd.ntmps19
    go_wp2_with (first
      | (go_at_call 52; refine (H1.out _).mono ?_; rintro e w' ⟨rfl, rfl⟩)
      | go_in)
    go_ret2
    exact ⟨rfl, bx0 _⟩

/-- numbers of nodes as cells -/
def nv (l : List Nat) : List Int := l.map fun n : Nat => (n : Int)
theorem nv_snoc (l : List Nat) (x : Nat) : iv (nv (l ++ [x])) = iv (nv l) ++ [.int .i64 (x : Int)] := by simp [nv, iv]
def ival : Value → Int | .int _ n => n | _ => 0
theorem two_up {x n : Nat} (h : Ins x n) (hne : x + 1 ≠ n) : (2 * (upN x : Int) - (x : Int)) = (sibN x : Nat) := by
  obtain ⟨_, _, _, hp⟩ := h.up hne
  unfold sibN; omega
set_option maxHeartbeats 1000000 in
theorem path_ok (x n : Nat) (w : World) (h : Ins x n) (hT : Tab w) :
    Calls Tryd.prog 16 #[.int .i64 (x : Int), .int .i64 (n : Int)] w fun e w' => ∃ A c, e = .returned (.tuple #[.slice A (pathL x n).length c, .int .i64 0]) ∧ Ow w' w.heap.size 3 1 A (pathL x n).length c (iv (nv (pathL x n))) ∧ Below w.heap.size w w' := by
  have H1 := Lib.hid (fun W => inside_yes x n W h)
  have hs := size_le h.1
  have hl8 : (pathL x n).length ≤ 8 := by
    have := (pathL_len h (ht n - lev x) (by have := h.lev_le; omega)).1
    have := ht_le h.1; omega
  go_enter Tryd.func16, Tryd.ntmps16
  go_wp2_with (go_at_call 49; refine (H1.out _).mono ?_; rintro e w' ⟨rfl, rfl⟩)
  go_loopw [0, 6] (fun v i wr => ∃ (y : Nat) (l : List Nat) (A : Option Addr) (c : Nat), Ins y n ∧ v = .int .i64 (y : Int) ∧ pathL x n = l ++ pathL y n ∧ i = .slice A l.length c ∧ Ow wr w.heap.size 3 1 A l.length c (iv (nv l)) ∧ Below w.heap.size w wr) (fun v _ _ => 9 - lev (ival v).toNat)
  case atStart => exact ⟨x, [], none, 0, h, rfl, rfl, rfl, Ow.nil _ _ _ _, Below.refl _ _⟩
  case round =>
    obtain ⟨y, l, A, c, hy, rfl, hp, rfl, hO, hB⟩ := hrel
    have hy2 := hy.2
    by_cases hne : y + 1 = n
    · have t : ((y : Int) != (n : Int) - 1) = false := by rw [show ((n : Int) - 1) = (y : Int) by omega]; simp
      have hr : pathL x n = l := by
        obtain rfl : y = n - 1 := by omega
        rw [hp, pathL_root hy.1, List.append_nil]
      have HR := Lib.hid hr; clear hr hp
      go_wp2_with fail
      go_ret2
      exact ⟨A, c, by rw [HR.out]; rfl, by rw [HR.out]; exact hO, hB⟩
    · have t : ((y : Int) != (n : Int) - 1) = true := by rw [bne_iff_ne]; omega
      have H2 := Lib.hid (fun W hW => up_ok y W hy.lt hW)
      obtain ⟨u1, u2, u3, u4⟩ := hy.up hne
      have hk := ht_le h.1
      rw [pathL_up hy hne] at hp
      have hll : l.length ≤ 8 := by rw [hp] at hl8; simp at hl8; omega
      have HP := Lib.hid hp
      clear hp hl8
      go_wp2_with (first
        | (go_at_call 50; refine (H2.out _ (hT.below' hB)).mono ?_; rintro e w2 ⟨rfl, hB2⟩)
        | (at_builtin; refine wpList_app (o := ⟨some 20, _, _, _, _, _⟩) E23 rfl rfl rfl ((hO.below hB2).alloc _) rfl (lies_new w2 _ 3) rfl (by simp [Value.oneCell']) (by unfold maxLen; omega) (by omega) (by have := hB.size; have := hB2.size; simp; omega) ?_; intro A3 c3 w3 hO3 hG3 hB3))
      go_roundw
      case rel =>
        have hb : Below w.heap.size w w3 := (((hB.trans (hB2.mono hB.size))).alloc (by have := hB.size; have := hB2.size; omega) _).trans hB3
        exact ⟨upN y, l ++ [upN y], A3, c3, u1, rfl, by rw [HP.out, List.append_assoc]; rfl, by simp, by rw [nv_snoc, List.length_append]; exact hO3, hb⟩
      case measure => simp [ival]; omega
theorem path_no (x n : Int) (w : World) (h : ¬ InsI x n) :
    Calls Tryd.prog 16 #[.int .i64 x, .int .i64 n] w fun e w' => e = .returned (.tuple #[.slice none 0 0, .int .i64 1]) ∧ w = w' := by
  have H1 := Lib.hid (fun W => inside_no x n W h)
  clear h
  go_enter Tryd.func16, Tryd.ntmps16
  go_wp2_with (go_at_call 49; refine (H1.out _).mono ?_; rintro e w' ⟨rfl, rfl⟩)
  go_ret2
  exact ⟨rfl, rfl⟩
set_option maxHeartbeats 1000000 in
theorem cop_ok (x n : Nat) (w : World) (h : Ins x n) (hT : Tab w) :
    Calls Tryd.prog 12 #[.int .i64 (x : Int), .int .i64 (n : Int)] w fun e w' => ∃ A c, e = .returned (.tuple #[.slice A (copL x n).length c, .int .i64 0]) ∧ Ow w' w.heap.size 3 1 A (copL x n).length c (iv (nv (copL x n))) ∧ Below w.heap.size w w' := by
  have H1 := Lib.hid (fun W => inside_yes x n W h)
  have hs := size_le h.1
  have hl8 : (copL x n).length ≤ 8 := by
    have := (pathL_len h (ht n - lev x) (by have := h.lev_le; omega)).2
    have := ht_le h.1; omega
  go_enter Tryd.func12, Tryd.ntmps12
  go_wp2_with (go_at_call 49; refine (H1.out _).mono ?_; rintro e w' ⟨rfl, rfl⟩)
  go_loopw [0, 6] (fun v i wr => ∃ (y : Nat) (l : List Nat) (A : Option Addr) (c : Nat), Ins y n ∧ v = .int .i64 (y : Int) ∧ copL x n = l ++ copL y n ∧ i = .slice A l.length c ∧ Ow wr w.heap.size 3 1 A l.length c (iv (nv l)) ∧ Below w.heap.size w wr) (fun v _ _ => 9 - lev (ival v).toNat)
  case atStart => exact ⟨x, [], none, 0, h, rfl, rfl, rfl, Ow.nil _ _ _ _, Below.refl _ _⟩
  case round =>
    obtain ⟨y, l, A, c, hy, rfl, hp, rfl, hO, hB⟩ := hrel
    have hy2 := hy.2
    by_cases hne : y + 1 = n
    · have t : ((y : Int) != (n : Int) - 1) = false := by rw [show ((n : Int) - 1) = (y : Int) by omega]; simp
      have hr : copL x n = l := by
        obtain rfl : y = n - 1 := by omega
        rw [hp, copL_root hy.1, List.append_nil]
      have HR := Lib.hid hr; clear hr hp
      go_wp2_with fail
      go_ret2
      exact ⟨A, c, by rw [HR.out]; rfl, by rw [HR.out]; exact hO, hB⟩
    · have t : ((y : Int) != (n : Int) - 1) = true := by rw [bne_iff_ne]; omega
      have H2 := Lib.hid (fun W hW => up_ok y W hy.lt hW)
      obtain ⟨u1, u2, u3, u4⟩ := hy.up hne
      have hul := u1.lt
      have hk := ht_le h.1
      rw [copL_up hy hne] at hp
      have hll : l.length ≤ 8 := by rw [hp] at hl8; simp at hl8; omega
      have HP := Lib.hid hp
      have HS := Lib.hid (two_up hy hne)
      clear hp hl8
      obtain ⟨u, hu⟩ : ∃ u, upN y = u := ⟨_, rfl⟩
      rw [hu] at H2 hul u1 u2 u4 HP HS
      go_wp2_with (first
        | (go_at_call 50; refine (H2.out _ (hT.below' hB)).mono ?_; rintro e w2 ⟨rfl, hB2⟩)
        | (at_builtin; refine wpList_app (o := ⟨some 24, _, _, _, _, _⟩) E23 rfl rfl rfl ((hO.below hB2).alloc _) rfl (lies_new w2 _ 3) rfl (by simp [Value.oneCell']) (by unfold maxLen; omega) (by omega) (by have := hB.size; have := hB2.size; simp; omega) ?_; intro A3 c3 w3 hO3 hG3 hB3; have hb : Below w.heap.size w w3 := (((hB.trans (hB2.mono hB.size))).alloc (by have := hB.size; have := hB2.size; omega) _).trans hB3))
      refine (H2.out _ (hT.below' hb)).mono ?_; rintro e w4 ⟨rfl, hB4⟩
      go_wp2_with fail
      go_roundw
      case rel =>
        exact ⟨u, l ++ [sibN y], A3, c3, u1, rfl, by rw [HP.out, List.append_assoc]; rfl, by simp, by rw [nv_snoc, List.length_append, ← HS.out]; exact hO3.below hB4, hb.trans (hB4.mono hb.size)⟩
      case measure => simp [ival]; omega
theorem cop_no (x n : Int) (w : World) (h : ¬ InsI x n) :
    Calls Tryd.prog 12 #[.int .i64 x, .int .i64 n] w fun e w' => e = .returned (.tuple #[.slice none 0 0, .int .i64 1]) ∧ w = w' := by
  have H1 := Lib.hid (fun W => inside_no x n W h)
  clear h
  go_enter Tryd.func12, Tryd.ntmps12
  go_wp2_with (go_at_call 49; refine (H1.out _).mono ?_; rintro e w' ⟨rfl, rfl⟩)
  go_ret2
  exact ⟨rfl, rfl⟩
theorem check_yes (w : World) : Calls Tryd.prog 51 #[.bool true] w fun e w' => e = .returned (.int .i64 0) ∧ w = w' := by
  go_enter Tryd.func51, Tryd.ntmps51
  go_wp2
  go_ret
  exact ⟨rfl, rfl⟩
theorem check_no (w : World) : Calls Tryd.prog 51 #[.bool false] w fun e w' => e = .returned (.int .i64 1) ∧ w = w' := by
  go_enter Tryd.func51, Tryd.ntmps51
  go_wp2
  go_ret
  exact ⟨rfl, rfl⟩
set_option maxHeartbeats 1000000 in
theorem com_ok (x y n : Nat) (w : World) (h : Ins x n) (k : Ins y n) (hT : Tab w) :
    Calls Tryd.prog 15 #[.int .i64 (x : Int), .int .i64 (y : Int), .int .i64 (n : Int)] w fun e w' => e = .returned (.tuple #[.int .i64 (comL x y : Nat), .int .i64 0]) ∧ Below w.heap.size w w' := by
  have H1 := Lib.hid (fun W => inside_yes x n W h)
  have H2 := Lib.hid (fun W => inside_yes y n W k)
  have hs := size_le h.1
  have hn : n ∈ sizes := h.1
  go_enter Tryd.func15, Tryd.ntmps15
  go_wp2_with fail
  refine (H1.out _).mono ?_; rintro e w' ⟨rfl, rfl⟩
  go_wp2_with fail
  refine (H2.out _).mono ?_; rintro e w' ⟨rfl, rfl⟩
  go_wp2_with (go_at_call 51; refine (check_yes _).mono ?_; rintro e w' ⟨rfl, rfl⟩)
  go_loopw [0, 1] (fun u v wr => ∃ a b : Nat, Ins a n ∧ Ins b n ∧ u = .int .i64 (a : Int) ∧ v = .int .i64 (b : Int) ∧ comL x y = comL a b ∧ Below w.heap.size w wr) (fun u v _ => 18 - (lev (ival u).toNat + lev (ival v).toNat))
  case atStart => exact ⟨x, y, h, k, rfl, rfl, rfl, Below.refl _ _⟩
  case round =>
    obtain ⟨a, b, ha, hb, rfl, rfl, hc, hB⟩ := hrel
    by_cases e : a = b
    · subst e
      rw [comL_self] at hc
      have HC := Lib.hid hc; clear hc
      have t : ((a : Int) != (a : Int)) = false := by simp
      go_wp2_with fail
      go_ret2
      exact ⟨by rw [HC.out]; rfl, hB⟩
    · have t : ((a : Int) != (b : Int)) = true := by rw [bne_iff_ne]; omega
      have L1 := Lib.hid (fun W hW => level_ok a W ha.lt hW)
      have L2 := Lib.hid (fun W hW => level_ok b W hb.lt hW)
      have hk := ht_le hn
      have la := ha.lev_le; have lb := hb.lev_le
      have hTr := hT.below' hB
      by_cases hl : lev a ≤ lev b
      · obtain ⟨c1, c2⟩ := comL_x ha hb e hl
        obtain ⟨u1, u2, u3, _⟩ := ha.up c1
        have U := Lib.hid (fun W hW => up_ok a W ha.lt hW)
        have HC := Lib.hid (hc.trans c2); clear hc c2
        obtain ⟨p, hp⟩ : ∃ p, lev a = p := ⟨_, rfl⟩
        obtain ⟨q, hq⟩ : ∃ q, lev b = q := ⟨_, rfl⟩
        rw [hp] at L1 hl la u2 u3; rw [hq] at L2 hl lb
        have tl : decide ((p : Int) ≤ (q : Int)) = true := decide_eq_true (by omega)
        go_wp2_with fail
        refine (L1.out _ hTr).mono ?_; rintro e w' ⟨rfl, rfl⟩
        go_wp2_with fail
        refine (L2.out _ hTr).mono ?_; rintro e w' ⟨rfl, rfl⟩
        go_wp2_with fail
        refine (U.out _ hTr).mono ?_; rintro e w2 ⟨rfl, hB2⟩
        go_wp2_with fail
        go_roundw
        case rel => exact ⟨upN a, b, u1, hb, rfl, rfl, HC.out, hB.trans (hB2.mono hB.size)⟩
        case measure => simp [ival]; omega
      · obtain ⟨c1, c2⟩ := comL_y ha hb e hl
        obtain ⟨u1, u2, u3, _⟩ := hb.up c1
        have U := Lib.hid (fun W hW => up_ok b W hb.lt hW)
        have HC := Lib.hid (hc.trans c2); clear hc c2
        obtain ⟨p, hp⟩ : ∃ p, lev a = p := ⟨_, rfl⟩
        obtain ⟨q, hq⟩ : ∃ q, lev b = q := ⟨_, rfl⟩
        rw [hp] at L1 hl la; rw [hq] at L2 hl lb u2 u3
        have tl : decide ((p : Int) ≤ (q : Int)) = false := decide_eq_false (by omega)
        go_wp2_with fail
        refine (L1.out _ hTr).mono ?_; rintro e w' ⟨rfl, rfl⟩
        go_wp2_with fail
        refine (L2.out _ hTr).mono ?_; rintro e w' ⟨rfl, rfl⟩
        go_wp2_with fail
        refine (U.out _ hTr).mono ?_; rintro e w2 ⟨rfl, hB2⟩
        go_wp2_with fail
        go_roundw
        case rel => exact ⟨a, upN b, ha, u1, rfl, rfl, HC.out, hB.trans (hB2.mono hB.size)⟩
        case measure => simp [ival]; omega
end Go.Proofs.YtieeinppoiihpaaDoor
