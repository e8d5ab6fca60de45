/- The walks of the reference's Parent, Sibling, Path, Copath. -/
import Derived.Test.YtieeinppoiihpaaDoorRef
namespace Go.Proofs.YtieeinppoiihpaaDoor
open Go.RowKit

theorem up_root {n : Nat} (h : n ∈ sizes) : upN (n - 1) = 2 * n - 1 := by
  have : sizes.all (fun n => upN (n - 1) == 2 * n - 1) = true := by kernel_rfl
  simpa using List.all_eq_true.1 this n h
/-- whose child is it -/
theorem child_up {p : Nat} (h : p < 511) (ho : p % 2 = 1) : upN (leftN p) = p ∧ upN (rightN p) = p := by
  have := nodes_all (p := fun p => p % 2 == 0 || (upN (leftN p) == p && upN (rightN p) == p)) (by kernel_rfl) h
  simp only [Bool.or_eq_true, Bool.and_eq_true, beq_iff_eq] at this
  exact this.resolve_left (by omega)
/-- no node before the parent has it as a child -/
theorem no_child {x p : Nat} (h : p < 511) (ho : p % 2 = 1) (hne : p ≠ upN x) : leftN p ≠ x ∧ rightN p ≠ x := by
  obtain ⟨a, b⟩ := child_up h ho
  constructor
  · intro e; rw [e] at a; exact hne a.symm
  · intro e; rw [e] at b; exact hne b.symm
set_option maxHeartbeats 1000000 in
theorem rpar_ok (x n : Nat) (w : World) (h : Ins x n) (hne : x + 1 ≠ n) : Calls Tryd.prog 21 #[.int .i64 (x : Int), .int .i64 (n : Int)] w fun e w' => e = .returned (.tuple #[.int .i64 (upN x : Nat), .int .i64 0]) ∧ w = w' := by
  have hs := size_le h.1
  obtain ⟨u1, _, _, _⟩ := h.up hne
  have hu := u1.2
  have ho := up_odd' h hne
  have lf := (leaves_fact h).2.2.2 hne
  have HN := Lib.hid (fun p (a : p < 511) (b : p % 2 = 1) (c : p ≠ upN x) => no_child a b c)
  have H1 := Lib.hid (fun W => rnode_yes x n W h)
  have L1 := Lib.hid (fun W => rleft_ok (upN x) W u1.lt ho)
  have L2 := Lib.hid (fun W => rright_ok (upN x) W u1.lt ho)
  have hlr : (leftN (upN x) = x) ∨ (leftN (upN x) ≠ x ∧ rightN (upN x) = x) := by
    by_cases e : leftN (upN x) = x
    · exact .inl e
    · rcases lf with q | q
      · exact absurd q.2.2.2.1 e
      · exact .inr ⟨e, q.2.2.2.1⟩
  obtain ⟨u, hue⟩ : ∃ u, upN x = u := ⟨_, rfl⟩
  rw [hue] at L1 L2 HN hu hlr
  obtain ⟨lu, hlu⟩ : ∃ l, leftN u = l := ⟨_, rfl⟩
  obtain ⟨ru, hru⟩ : ∃ r, rightN u = r := ⟨_, rfl⟩
  rw [hlu] at L1 hlr; rw [hru] at L2 hlr
  have HU := Lib.hid hue
  clear lf hue hlu hru u1 ho h hne
  have tx : ((x : Int) == (x : Int)) = true := by simp
  go_enter Tryd.func21, Tryd.ntmps21
  go_wp2_with (go_at_call 61; refine (H1.out _).mono ?_; rintro e w' ⟨rfl, rfl⟩)
  go_loop [18] (fun i => ∃ p : Nat, p ≤ u ∧ i = .int .i64 (p : Int)) (fun i => u + 1 - (intOf i).toNat)
  case atStart => exact ⟨0, Nat.zero_le _, rfl⟩
  case round =>
    obtain ⟨p, hp, rfl⟩ := hrel
    have tl : decide ((p : Int) < 2 * (n : Int) - 1) = true := decide_eq_true (by omega)
    by_cases e : p = u
    · subst e
      rcases hlr with rfl | ⟨e1, rfl⟩
      · go_wp2_with fail
        refine (L1.out _).mono ?_; rintro e w' ⟨rfl, rfl⟩
        go_wp2_with fail
        refine (L2.out _).mono ?_; rintro e w' ⟨rfl, rfl⟩
        go_wp2_with fail
        go_ret2
        exact ⟨by rw [HU.out]; rfl, rfl⟩
      · have t2 : ((lu : Int) == (ru : Int)) = false := by rw [beq_eq_false_iff_ne]; omega
        go_wp2_with fail
        refine (L1.out _).mono ?_; rintro e w' ⟨rfl, rfl⟩
        go_wp2_with fail
        refine (L2.out _).mono ?_; rintro e w' ⟨rfl, rfl⟩
        go_wp2_with fail
        go_ret2
        exact ⟨by rw [HU.out]; rfl, rfl⟩
    · by_cases ho : p % 2 = 1
      · obtain ⟨c1, c2⟩ := HN.out p (by omega) ho e
        have M1 := Lib.hid (fun W => rleft_ok p W (by omega) ho)
        have M2 := Lib.hid (fun W => rright_ok p W (by omega) ho)
        obtain ⟨lp, hlp⟩ : ∃ l, leftN p = l := ⟨_, rfl⟩
        obtain ⟨rp, hrp⟩ : ∃ r, rightN p = r := ⟨_, rfl⟩
        rw [hlp] at M1 c1; rw [hrp] at M2 c2
        have t1 : ((lp : Int) == (x : Int)) = false := by rw [beq_eq_false_iff_ne]; omega
        have t2 : ((rp : Int) == (x : Int)) = false := by rw [beq_eq_false_iff_ne]; omega
        clear hlp hrp
        go_wp2_with fail
        refine (M1.out _).mono ?_; rintro e w' ⟨rfl, rfl⟩
        go_wp2_with fail
        refine (M2.out _).mono ?_; rintro e w' ⟨rfl, rfl⟩
        go_wp2_with fail
        go_round
        case rel => exact ⟨p + 1, by omega, by go_num⟩
        case measure => simp [intOf]; omega
      · have M1 := Lib.hid (fun W => rleft_no (p : Int) W (.inr (.inr ⟨by omega, by omega, by omega⟩)))
        have M2 := Lib.hid (fun W => rright_no (p : Int) W (.inr (.inr ⟨by omega, by omega, by omega⟩)))
        go_wp2_with fail
        refine (M1.out _).mono ?_; rintro e w' ⟨rfl, rfl⟩
        go_wp2_with fail
        refine (M2.out _).mono ?_; rintro e w' ⟨rfl, rfl⟩
        go_wp2_with fail
        go_round
        case rel => exact ⟨p + 1, by omega, by go_num⟩
        case measure => simp [intOf]; omega
set_option maxHeartbeats 1000000 in
theorem rpar_root (n : Nat) (w : World) (hn : n ∈ sizes) : Calls Tryd.prog 21 #[.int .i64 ((n - 1 : Nat) : Int), .int .i64 (n : Int)] w fun e w' => e = .returned (.tuple #[.int .i64 0, .int .i64 1]) ∧ w = w' := by
  have hs := size_le hn
  have hu := up_root hn
  have HN := Lib.hid (fun p (a : p < 511) (b : p % 2 = 1) (c : p ≠ upN (n - 1)) => no_child a b c)
  have H1 := Lib.hid (fun W => rnode_yes (n - 1) n W (Ins.root hn))
  rw [hu] at HN
  obtain ⟨x, hx⟩ : ∃ x, n - 1 = x := ⟨_, rfl⟩
  rw [hx] at H1 HN ⊢
  obtain ⟨u, hue⟩ : ∃ u, 2 * n - 1 = u := ⟨_, rfl⟩
  rw [hue] at HN
  have eu : 2 * (n : Int) - 1 = (u : Int) := by omega
  have hu2 : u ≤ 511 := by omega
  clear hu hue hn hx
  go_enter Tryd.func21, Tryd.ntmps21
  go_wp2_with (go_at_call 61; refine (H1.out _).mono ?_; rintro e w' ⟨rfl, rfl⟩)
  go_loop [18] (fun i => ∃ p : Nat, p ≤ u ∧ i = .int .i64 (p : Int)) (fun i => u + 1 - (intOf i).toNat)
  case atStart => exact ⟨0, Nat.zero_le _, rfl⟩
  case round =>
    obtain ⟨p, hp, rfl⟩ := hrel
    by_cases e : p = u
    · subst e
      go_wp2_with fail
      go_ret2
      exact ⟨rfl, rfl⟩
    · by_cases ho : p % 2 = 1
      · obtain ⟨c1, c2⟩ := HN.out p (by omega) ho e
        have M1 := Lib.hid (fun W => rleft_ok p W (by omega) ho)
        have M2 := Lib.hid (fun W => rright_ok p W (by omega) ho)
        obtain ⟨lp, hlp⟩ : ∃ l, leftN p = l := ⟨_, rfl⟩
        obtain ⟨rp, hrp⟩ : ∃ r, rightN p = r := ⟨_, rfl⟩
        rw [hlp] at M1 c1; rw [hrp] at M2 c2
        have t1 : ((lp : Int) == (x : Int)) = false := by rw [beq_eq_false_iff_ne]; omega
        have t2 : ((rp : Int) == (x : Int)) = false := by rw [beq_eq_false_iff_ne]; omega
        clear hlp hrp
        go_wp2_with fail
        refine (M1.out _).mono ?_; rintro e w' ⟨rfl, rfl⟩
        go_wp2_with fail
        refine (M2.out _).mono ?_; rintro e w' ⟨rfl, rfl⟩
        go_wp2_with fail
        go_round
        case rel => exact ⟨p + 1, by omega, by go_num⟩
        case measure => simp [intOf]; omega
      · have M1 := Lib.hid (fun W => rleft_no (p : Int) W (.inr (.inr ⟨by omega, by omega, by omega⟩)))
        have M2 := Lib.hid (fun W => rright_no (p : Int) W (.inr (.inr ⟨by omega, by omega, by omega⟩)))
        go_wp2_with fail
        refine (M1.out _).mono ?_; rintro e w' ⟨rfl, rfl⟩
        go_wp2_with fail
        refine (M2.out _).mono ?_; rintro e w' ⟨rfl, rfl⟩
        go_wp2_with fail
        go_round
        case rel => exact ⟨p + 1, by omega, by go_num⟩
        case measure => simp [intOf]; omega
theorem rpar_no (x n : Int) (w : World) (h : ¬ InsI x n) : Calls Tryd.prog 21 #[.int .i64 x, .int .i64 n] w fun e w' => e = .returned (.tuple #[.int .i64 0, .int .i64 1]) ∧ w = w' := by
  have H1 := Lib.hid (fun W => rnode_no x n W h)
  clear h
  go_enter Tryd.func21, Tryd.ntmps21
  go_wp2_with (go_at_call 61; refine (H1.out _).mono ?_; rintro e w' ⟨rfl, rfl⟩)
  go_ret2
  exact ⟨rfl, rfl⟩
theorem rsib_ok (x n : Nat) (w : World) (h : Ins x n) (hne : x + 1 ≠ n) : Calls Tryd.prog 23 #[.int .i64 (x : Int), .int .i64 (n : Int)] w fun e w' => e = .returned (.tuple #[.int .i64 (sibN x : Nat), .int .i64 0]) ∧ w = w' := by
  have H1 := Lib.hid (fun W => rpar_ok x n W h hne)
  obtain ⟨u1, _, _, _⟩ := h.up hne
  have ho := up_odd' h hne
  have hsx := sib_ne h hne
  have lf := (leaves_fact h).2.2.2 hne
  have L1 := Lib.hid (fun W => rleft_ok (upN x) W u1.lt ho)
  have L2 := Lib.hid (fun W => rright_ok (upN x) W u1.lt ho)
  obtain ⟨s, hs⟩ : ∃ s, sibN x = s := ⟨_, rfl⟩
  rw [hs] at hsx lf ⊢
  rcases lf with ⟨_, _, _, l1, l2⟩ | ⟨_, _, _, l2, l1⟩
  · rw [l1] at L1; rw [l2] at L2
    have tx : ((x : Int) != (x : Int)) = false := by simp
    clear l1 l2 u1 ho hs h hne hsx
    go_enter Tryd.func23, Tryd.ntmps23
    go_wp2_with fail
    refine (H1.out _).mono ?_; rintro e w' ⟨rfl, rfl⟩
    go_wp2_with fail
    refine (L1.out _).mono ?_; rintro e w' ⟨rfl, rfl⟩
    go_wp2_with fail
    refine (L2.out _).mono ?_; rintro e w' ⟨rfl, rfl⟩
    go_wp2_with fail
    go_ret2
    exact ⟨rfl, rfl⟩
  · rw [l1] at L1
    have tx : ((s : Int) != (x : Int)) = true := by rw [bne_iff_ne]; omega
    clear l1 l2 u1 ho hs h hne hsx L2
    go_enter Tryd.func23, Tryd.ntmps23
    go_wp2_with fail
    refine (H1.out _).mono ?_; rintro e w' ⟨rfl, rfl⟩
    go_wp2_with fail
    refine (L1.out _).mono ?_; rintro e w' ⟨rfl, rfl⟩
    go_wp2_with fail
    go_ret2
    exact ⟨rfl, rfl⟩
theorem rsib_no (x n : Int) (w : World) (H1 : Hid (∀ W, Calls Tryd.prog 21 #[.int .i64 x, .int .i64 n] W fun e w' => e = .returned (.tuple #[.int .i64 0, .int .i64 1]) ∧ W = w')) : Calls Tryd.prog 23 #[.int .i64 x, .int .i64 n] w fun e w' => e = .returned (.tuple #[.int .i64 0, .int .i64 1]) ∧ w = w' := by
  go_enter Tryd.func23, Tryd.ntmps23
  go_wp2_with (go_at_call 21; refine (H1.out _).mono ?_; rintro e w' ⟨rfl, rfl⟩)
  go_ret2
  exact ⟨rfl, rfl⟩
set_option maxHeartbeats 1000000 in
theorem rpath_ok (x n : Nat) (w : World) (h : Ins x n) :
    Calls Tryd.prog 24 #[.int .i64 (x : Int), .int .i64 (n : Int)] w fun e w' => ∃ A c, e = .returned (.tuple #[.slice A (pathL x n).length c, .int .i64 0]) ∧ Ow w' w.heap.size 3 1 A (pathL x n).length c (iv (nv (pathL x n))) ∧ Below w.heap.size w w' := by
  have H1 := Lib.hid (fun W => rnode_yes x n W h)
  have hs := size_le h.1
  have hl8 : (pathL x n).length ≤ 8 := by
    have := (pathL_len h (ht n - lev x) (by have := h.lev_le; omega)).1
    have := ht_le h.1; omega
  go_enter Tryd.func24, Tryd.ntmps24
  go_wp2_with (go_at_call 61; refine (H1.out _).mono ?_; rintro e w' ⟨rfl, rfl⟩)
  go_loopw [0, 6] (fun v i wr => ∃ (y : Nat) (l : List Nat) (A : Option Addr) (c : Nat), Ins y n ∧ v = .int .i64 (y : Int) ∧ pathL x n = l ++ pathL y n ∧ i = .slice A l.length c ∧ Ow wr w.heap.size 3 1 A l.length c (iv (nv l)) ∧ Below w.heap.size w wr) (fun v _ _ => 9 - lev (ival v).toNat)
  case atStart => exact ⟨x, [], none, 0, h, rfl, rfl, rfl, Ow.nil _ _ _ _, Below.refl _ _⟩
  case round =>
    obtain ⟨y, l, A, c, hy, rfl, hp, rfl, hO, hB⟩ := hrel
    have hy2 := hy.2
    by_cases hne : y + 1 = n
    · have H2 := Lib.hid (fun W => rpar_root n W h.1)
      have hyn : n - 1 = y := by omega
      have hr : pathL x n = l := by
        rw [hp, ← hyn, pathL_root hy.1, List.append_nil]
      rw [hyn] at H2
      have HR := Lib.hid hr; clear hr hp hyn
      go_wp2_with fail
      refine (H2.out _).mono ?_; rintro e w' ⟨rfl, rfl⟩
      go_wp2_with fail
      go_ret2
      exact ⟨A, c, by rw [HR.out]; rfl, by rw [HR.out]; exact hO, hB⟩
    · have H2 := Lib.hid (fun W => rpar_ok y n W hy hne)
      obtain ⟨u1, u2, u3, u4⟩ := hy.up hne
      have hk := ht_le h.1
      rw [pathL_up hy hne] at hp
      have hll : l.length ≤ 8 := by rw [hp] at hl8; simp at hl8; omega
      have HP := Lib.hid hp
      clear hp hl8
      go_wp2_with (first
        | (go_at_call 21; refine (H2.out _).mono ?_; rintro e w' ⟨rfl, rfl⟩)
        | (at_builtin; refine wpList_app (o := ⟨some 25, _, _, _, _, _⟩) E23 rfl rfl rfl (hO.alloc _) rfl (lies_new wr _ 3) rfl (by simp [Value.oneCell']) (by unfold maxLen; omega) (by omega) (by have := hB.size; simp; omega) ?_; intro A3 c3 w3 hO3 hG3 hB3))
      go_roundw
      case rel =>
        have hb : Below w.heap.size w w3 := (hB.alloc (by have := hB.size; omega) _).trans hB3
        exact ⟨upN y, l ++ [upN y], A3, c3, u1, rfl, by rw [HP.out, List.append_assoc]; rfl, by simp, by rw [nv_snoc, List.length_append]; exact hO3, hb⟩
      case measure => simp [ival]; omega
theorem rpath_no (x n : Int) (w : World) (h : ¬ InsI x n) :
    Calls Tryd.prog 24 #[.int .i64 x, .int .i64 n] w fun e w' => e = .returned (.tuple #[.slice none 0 0, .int .i64 1]) ∧ w = w' := by
  have H1 := Lib.hid (fun W => rnode_no x n W h)
  clear h
  go_enter Tryd.func24, Tryd.ntmps24
  go_wp2_with (go_at_call 61; refine (H1.out _).mono ?_; rintro e w' ⟨rfl, rfl⟩)
  go_ret2
  exact ⟨rfl, rfl⟩
theorem rcop_no (x n : Int) (w : World) (h : ¬ InsI x n) :
    Calls Tryd.prog 25 #[.int .i64 x, .int .i64 n] w fun e w' => e = .returned (.tuple #[.slice none 0 0, .int .i64 1]) ∧ w = w' := by
  have H1 := Lib.hid (fun W => rpath_no x n W h)
  clear h
  go_enter Tryd.func25, Tryd.ntmps25
  go_wp2_with (go_at_call 24; refine (H1.out _).mono ?_; rintro e w' ⟨rfl, rfl⟩)
  go_ret2
  exact ⟨rfl, rfl⟩
theorem nv_get? (l : List Nat) (k x : Nat) (h : l[k]? = some x) (hk : k < (nv l).length) : (nv l)[k]'hk = (x : Int) := by
  have : (nv l)[k]? = some (x : Int) := by simp [nv, h]
  rw [List.getElem?_eq_getElem hk] at this
  exact Option.some.inj this
set_option maxHeartbeats 1000000 in
theorem rcop_ok (x n : Nat) (w : World) (h : Ins x n) :
    Calls Tryd.prog 25 #[.int .i64 (x : Int), .int .i64 (n : Int)] w fun e w' => ∃ A c, e = .returned (.tuple #[.slice A (copL x n).length c, .int .i64 0]) ∧ Ow w' w.heap.size 3 1 A (copL x n).length c (iv (nv (copL x n))) ∧ Below w.heap.size w w' := by
  have H1 := Lib.hid (fun W => rpath_ok x n W h)
  have hl := pathL_len h (ht n - lev x) (by have := h.lev_le; omega)
  have h8 := ht_le h.1
  obtain ⟨N, hN⟩ : ∃ N, (pathL x n).length = N := ⟨_, rfl⟩
  have hN2 : (copL x n).length = N := by omega
  have hN8 : N ≤ 8 := by omega
  rw [hN] at H1
  rw [hN2]
  clear hl h8 hN2
  go_enter Tryd.func25, Tryd.ntmps25
  go_wp2_with (go_at_call 24; refine (H1.out _).mono ?_; rintro e w1 ⟨A1, c1, rfl, hO1, hB1⟩)
  have hS1 := hO1.sl
  have HNl := Lib.hid hN
  clear hO1 H1
  go_loopw [0, 8, 24] (fun v i q wr => ∃ (y : Nat) (p l : List Nat) (A : Option Addr) (c : Nat), Ins y n ∧ v = .int .i64 (y : Int) ∧ q = .int .i64 (p.length : Int) ∧ p.length = l.length ∧ p.length ≤ N ∧ Hid (pathL x n = p ++ pathL y n) ∧ Hid (copL x n = l ++ copL y n) ∧ i = .slice A l.length c ∧ Ow wr w1.heap.size 3 1 A l.length c (iv (nv l)) ∧ Below w1.heap.size w1 wr) (fun _ _ q _ => N - (intOf q).toNat)
  case atStart => exact ⟨x, [], [], none, 0, h, rfl, rfl, rfl, Nat.zero_le _, rfl, rfl, rfl, Ow.nil _ _ _ _, Below.refl _ _⟩
  case round =>
    obtain ⟨y, p, l, A, c, hy, rfl, rfl, hpl, hpN, HP, HC, rfl, hO, hB⟩ := hrel
    have hlp := congrArg List.length HP.out
    rw [List.length_append, hN] at hlp
    obtain ⟨k, hk⟩ : ∃ k, p.length = k := ⟨_, rfl⟩
    rw [hk] at hpl hpN hlp ⊢
    by_cases hlt : k < N
    · have hne : y + 1 ≠ n := fun e => by
        have : y = n - 1 := by omega
        rw [this, pathL_root hy.1] at hlp; simp at hlp; omega
      obtain ⟨u1, u2, u3, u4⟩ := hy.up hne
      have hpk : (pathL x n)[k]? = some (upN y) := by
        rw [HP.out, pathL_up hy hne, ← hk]; simp
      obtain ⟨ad, hla, rfl, hc⟩ := (hS1.below hB).int hlt
      rw [nv_get? _ k _ hpk] at hc
      have H2 := Lib.hid (fun W => rsib_ok y n W hy hne)
      have HP2 : Hid (pathL x n = (p ++ [upN y]) ++ pathL (upN y) n) := Lib.hid (by rw [HP.out, pathL_up hy hne, List.append_assoc]; rfl)
      have HC2 : Hid (copL x n = (l ++ [sibN y]) ++ copL (upN y) n) := Lib.hid (by rw [HC.out, copL_up hy hne, List.append_assoc]; rfl)
      have HK := Lib.hid hk; have HPL := Lib.hid hpl
      have hl8 : l.length ≤ 8 := by omega
      obtain ⟨m, hm⟩ : ∃ m, l.length = m := ⟨_, rfl⟩
      have HM := Lib.hid hm
      rw [hm] at hO hl8 ⊢
      clear hpk hlp hne hk hpl hm hla HP HC
      go_wp2_with (first
        | (go_at_call 23; refine (H2.out _).mono ?_; rintro e w' ⟨rfl, rfl⟩)
        | (at_builtin; refine wpList_app (o := ⟨some 37, _, _, _, _, _⟩) E23 rfl rfl rfl (hO.alloc _) rfl (lies_new wr _ 3) rfl (by simp [Value.oneCell']) (by unfold maxLen; omega) (by omega) (by have := hB.size; simp; omega) ?_; intro A3 c3 w3 hO3 hG3 hB3))
      go_roundw
      case rel =>
        have hb : Below w1.heap.size w1 w3 := (hB.alloc (by have := hB.size; omega) _).trans hB3
        exact ⟨upN y, p ++ [upN y], l ++ [sibN y], A3, c3, u1, rfl, by rw [List.length_append, HK.out]; go_num, by have := HK.out; have := HPL.out; rw [List.length_append, List.length_append]; simp; omega, by have := HK.out; rw [List.length_append]; simp; omega, HP2, HC2, by rw [List.length_append, HM.out]; rfl, by rw [nv_snoc, List.length_append, HM.out]; exact hO3, hb⟩
      case measure => simp [intOf]; omega
    · have hkN : k = N := by omega
      have hnil : (pathL y n).length = 0 := by omega
      have hyn : y + 1 = n := by
        apply Classical.byContradiction
        intro hne
        rw [pathL_up hy hne] at hnil; simp at hnil
      have hr : copL x n = l := by
        have : y = n - 1 := by omega
        rw [HC.out, this, copL_root hy.1, List.append_nil]
      have HR := Lib.hid hr
      have hlN : l.length = N := by omega
      have HL := Lib.hid hlN
      subst hkN
      rw [hlN] at hO ⊢
      clear hr hnil hlp hyn hk hlN hpl
      go_wp2_with fail
      go_ret2
      exact ⟨A, c, rfl, by rw [HR.out]; exact hO.mono hB1.size, nx hB1 hB⟩
end Go.Proofs.YtieeinppoiihpaaDoor
