/- The walk of the law MathParts. -/
import Derived.Test.YtieeinppoiihpaaDoorLive
import Derived.Test.YtieeinppoiihpaaDoorParts
namespace Go.Proofs.YtieeinppoiihpaaDoor
open Go.RowKit

theorem nv_len (l : List Nat) : (nv l).length = l.length := by simp [nv]
theorem nv_get (l : List Nat) (k : Nat) (hk : k < (nv l).length) : l[k]? = some (l[k]'(by simpa [nv] using hk)) ∧ (nv l)[k]'hk = ((l[k]'(by simpa [nv] using hk) : Nat) : Int) := ⟨List.getElem?_eq_getElem _, by simp [nv]⟩
theorem own_one (w : World) (base : Nat) (hb : base ≤ w.heap.size) (v : Value) : Ow (w.alloc (.cells #[v] 3)) base 3 1 (some ⟨w.heap.size, 0, none⟩) 1 1 [v] :=
  ⟨rfl, .inr ⟨_, 1, #[v], rfl, hb, heap_alloc_new w _, by omega, by unfold maxLen; omega, rfl, rfl⟩⟩
theorem iv_rng_get (n : Nat) (f : Nat → Nat) (j : Nat) (hj : j < n) : (iv (rng n f))[j]? = some (.int .i64 ((f j : Nat) : Int)) := by
  rw [iv_get, rng_get n f j hj]; rfl
theorem iv_zero (n : Nat) (f : Nat → Nat) (h : ∀ j, j < n → f j = 0) : iv (rng n f) = List.replicate n (.int .i64 0) := by
  rw [rng_zero n f h]; simp [iv]
theorem iv_set (l : List Int) (i : Nat) (z : Int) : (iv l).set i (.int .i64 z) = iv (l.set i z) := by simp [iv, List.map_set]
theorem Sl.other {w : World} {A : Option Addr} {n c : Nat} {xs : List Value} (h : Sl w A n c xs) {g j : Nat} {u : Value} (hA : ∀ ad, A = some ad → ad.block ≠ g) : Sl (w.setCell ⟨g, j, Option.none⟩ u) A n c xs := by
  refine ⟨h.len, h.cap, h.top, ?_⟩
  rcases h.lies with e | ⟨ad, rfl, hc⟩
  · exact .inl e
  · refine .inr ⟨ad, rfl, fun k v hv => ?_⟩
    rw [← hc k v hv]
    refine World.cell?_of_block (Below.heap_setCell w _ u _ ?_)
    rw [blk_add]; exact hA ad rfl
/-- the counts within a round -/
def inn (X : List Nat) (k lo i j : Nat) : Nat := cnt X k j + if lo ≤ j ∧ j < i then 1 else 0
theorem inn_start (X : List Nat) (k lo j : Nat) : inn X k lo lo j = cnt X k j := by
  unfold inn; rw [if_neg (by omega)]; rfl
theorem inn_step (X : List Nat) (k lo i j : Nat) (h : lo ≤ i) : inn X k lo (i + 1) j = if j = i then inn X k lo i i + 1 else inn X k lo i j := by
  unfold inn
  by_cases e : j = i
  · subst e; rw [if_pos (by omega), if_pos rfl, if_neg (by omega)]
  · rw [if_neg e]
    by_cases a : lo ≤ j ∧ j < i
    · rw [if_pos a, if_pos (by omega)]
    · rw [if_neg a, if_neg (by omega)]
theorem inn_le (X : List Nat) (k lo i j : Nat) : inn X k lo i j ≤ X.length + 1 := by
  unfold inn
  have := cnt_le X k j
  split <;> omega
set_option maxRecDepth 100000 in
set_option maxHeartbeats 4000000 in
theorem partsMain (x n : Nat) (w : World) (h : Ins x n) (hT : Tab w) :
    Calls Tryd.prog 4 #[.int .i64 (x : Int), .int .i64 (n : Int)] w fun e w' => e = .returned (.bool true) ∧ Below w.heap.size w w' := by
  have hs := size_le h.1
  have C1 := Lib.hid (fun W hW => cop_ok x n W h hW)
  have C2 := Lib.hid (fun W hW => path_ok x n W h hW)
  have hpl := pathL_len h (ht n - lev x) (by have := h.lev_le; omega)
  have h8 := ht_le h.1
  obtain ⟨C, hC⟩ : ∃ C, copL x n = C := ⟨_, rfl⟩
  obtain ⟨P, hP⟩ : ∃ P, pathL x n = P := ⟨_, rfl⟩
  rw [hC] at C1 hpl; rw [hP] at C2 hpl
  obtain ⟨N, hN⟩ : ∃ N, C.length = N := ⟨_, rfl⟩
  have hN2 : P.length = N := by omega
  rw [hN] at C1; rw [hN2] at C2
  have hN8 : N ≤ 8 := by omega
  clear hpl h8
  have t1 : decide ((n : Int) < 1) = false := decide_eq_false (by omega)
  have t2 : decide ((256 : Int) < (n : Int)) = false := decide_eq_false (by omega)
  go_enter Tryd.func4, Tryd.ntmps4
  go_wp2_with fail
  refine (lead w hT).mono ?_; rintro e w1 ⟨rfl, hB1⟩
  have T1 := hT.below' hB1
  go_wp2_with fail
  refine (C1.out _ T1).mono ?_; rintro e w2 ⟨A2, c2, rfl, hO2, hB2⟩
  have T2 := T1.below' hB2
  go_wp2_with fail
  refine (C2.out _ T2).mono ?_; rintro e w3 ⟨A3, c3, rfl, hO3, hB3⟩
  have T3 := T2.below' hB3
  have hSC := hO2.sl.below hB3
  have hSP := hO3.sl
  have hB := nx (nx hB1 hB2) hB3
  clear C1 C2 hO2 hO3 hB1 hB2 hB3 T1 T2
  go_wp2_with (first
    | (at_make; refine wpList_mk (o := ⟨some 78, _, _, _, _, _⟩) E23 rfl rfl rfl n rfl rfl rfl rfl w3.heap.size (Nat.le_refl _) (by omega) (by unfold maxLen; omega) ?_; intro w4 hO4 hG4 hB4)
    | (at_builtin; refine wpList_app (o := ⟨some 82, _, _, _, _, _⟩) E23 rfl rfl rfl (own_one w4 w4.heap.size (Nat.le_refl _) _) rfl ((hSC.below hB4).lies.alloc _) (by rw [iv_length, nv_len, hN, Nat.mul_one]) (iv_one _) (by unfold maxLen; omega) (by omega) (by simp) ?_; intro A5 c5 w5 hO5 hG5 hB5))
  obtain ⟨X, hX⟩ : ∃ X, x :: C = X := ⟨_, rfl⟩
  have hSX : Sl w5 A5 (1 + N) c5 (iv (nv X)) := by
    have := hO5.sl
    rw [← hX]; exact this
  obtain ⟨gx, hgx, hgx1, _⟩ := hO5.form (by omega)
  have h34 : w3.heap.size < w4.heap.size := hO4.bit
  subst hgx
  have hne : ∀ ad : Addr, some (⟨gx, 0, none⟩ : Addr) = some ad → ad.block ≠ w3.heap.size := by
    intro ad e; injection e with e; subst e
    show gx ≠ _; omega
  have hM : Ow w5 w3.heap.size 3 1 (some ⟨w3.heap.size, 0, none⟩) n n (iv (rng n (cnt X 0))) := by
    rw [iv_zero n (cnt X 0) (fun j _ => by simp [cnt, many])]
    exact hO4.below (((Below.refl _ w4).alloc (Nat.le_refl _) _).trans hB5)
  have hB35 : Below w3.heap.size w3 w5 := (hB4.alloc (by omega) _).trans (hB5.mono (by omega))
  have HXI := Lib.hid (show ∀ y ∈ X, Ins y n by
    rw [← hX, ← hC]; intro y hy
    rcases List.mem_cons.1 hy with rfl | hy
    · exact h
    · exact copL_ins h y hy)
  have hXl : X.length = N + 1 := by rw [← hX, List.length_cons, hN]
  have HXl := Lib.hid hXl
  clear hO4 hG4 hB4 hO5 hB5 hG5 hXl h34
  go_loopw [84] (fun i wr => ∃ k : Nat, k ≤ N + 1 ∧ i = .int .i64 (k : Int) ∧ Ow wr w3.heap.size 3 1 (some ⟨w3.heap.size, 0, none⟩) n n (iv (rng n (cnt X k))) ∧ Sl wr (some ⟨gx, 0, none⟩) (1 + N) c5 (iv (nv X)) ∧ Below w3.heap.size w3 wr) (fun i _ => N + 1 - (intOf i).toNat)
  case atStart => exact ⟨0, by omega, rfl, hM, hSX, hB35⟩
  case round =>
    clear hM hSX hB35
    obtain ⟨k, hk, rfl, hMr, hXr, hBr⟩ := hrel
    by_cases hlt : k < 1 + N
    · obtain ⟨ad, hl, hA, hc⟩ := hXr.int hlt
      obtain ⟨e1, e2⟩ := nv_get X k hl
      injection hA with hA
      subst hA
      rw [e2, add_mk, Nat.zero_add] at hc
      obtain ⟨y, hy⟩ : ∃ y, X[k]'(by simpa [nv] using hl) = y := ⟨_, rfl⟩
      rw [hy] at hc e1
      have hyi := HXI.out y (List.mem_of_getElem? e1)
      have hlf := leaves_fact hyi
      have C5 := Lib.hid (fun W hW => leaves_ok y W hyi.lt hW)
      have HCS := Lib.hid (fun j => cnt_succ X k j y e1)
      obtain ⟨lo, hlo⟩ : ∃ lo, loN y = lo := ⟨_, rfl⟩
      obtain ⟨hi, hhi⟩ : ∃ hi, hiN y = hi := ⟨_, rfl⟩
      rw [hlo, hhi] at C5 HCS hlf
      obtain ⟨l1, l2, _, _⟩ := hlf
      clear e1 e2 hy hlo hhi hyi
      have s1 : decide ((lo : Int) < 0) = false := decide_eq_false (by omega)
      have s2 : decide ((n : Int) < (hi : Int)) = false := decide_eq_false (by omega)
      have s3 : decide ((hi : Int) ≤ (lo : Int)) = false := decide_eq_false (by omega)
      have Tr := T3.below' hBr
      go_wp2_with fail
      refine (C5.out _ Tr).mono ?_; rintro e w' ⟨rfl, rfl⟩
      go_wp2_with fail
      go_loopw [16] (fun v wr2 => ∃ i : Nat, lo ≤ i ∧ i ≤ hi ∧ v = .int .i64 (i : Int) ∧ Ow wr2 w3.heap.size 3 1 (some ⟨w3.heap.size, 0, none⟩) n n (iv (rng n (inn X k lo i))) ∧ Sl wr2 (some ⟨gx, 0, none⟩) (1 + N) c5 (iv (nv X)) ∧ Below w3.heap.size w3 wr2) (fun v _ => hi - (intOf v).toNat)
      case atStart => exact ⟨lo, Nat.le_refl _, by omega, rfl, by rw [rng_congr n _ (cnt X k) (fun j _ => inn_start X k lo j)]; exact hMr, hXr, hBr⟩
      case round =>
        clear hMr hXr hBr hc
        obtain ⟨i, i1, i2, rfl, hM2, hX2, hB2⟩ := hrel
        by_cases hl2 : i < hi
        · have hc2 := hM2.cell (iv_rng_get n (inn X k lo i) i (by omega))
          have hf2 := hM2.frz i
          have HM := Lib.hid (hM2.set_ i (.int .i64 ((inn X k lo i i : Nat) + 1 : Int)))
          have HR := Lib.hid (rng_set n (inn X k lo i) (inn X k lo (i + 1)) i (fun j _ => inn_step X k lo i j i1))
          have hv := inn_le X k lo i i
          rw [HXl.out] at hv
          obtain ⟨v, hvv⟩ : ∃ v, inn X k lo i i = v := ⟨_, rfl⟩
          rw [hvv] at hc2 HM HR hv
          have HX2 := Lib.hid (hX2.other (g := w3.heap.size) (j := i) (u := .int .i64 ((v : Int) + 1)) hne)
          have HB2 := Lib.hid (hB2.setCell (p := ⟨w3.heap.size, i, none⟩) (Nat.le_refl _) (.int .i64 ((v : Int) + 1)))
          clear hvv
          go_wp2_with fail
          go_roundw
          case rel => exact ⟨i + 1, by omega, by omega, by go_num, by rw [← HR.out, ← iv_set]; exact HM.out, HX2.out, HB2.out⟩
          case measure => simp [intOf]; omega
        · obtain rfl : i = hi := by omega
          go_wp2_with fail
          go_roundw
          case rel => exact ⟨k + 1, by omega, by go_num, by rw [rng_congr n (cnt X (k + 1)) (inn X k lo i) (fun j _ => HCS.out j)]; exact hM2, hX2, hB2⟩
          case measure => simp [intOf]; omega
    · obtain rfl : k = 1 + N := by omega
      have hone : rng n (cnt X (1 + N)) = rng n (fun _ => 1) := rng_congr n _ _ fun j hj => by
        have := cnt_all h j hj
        rwa [hC, hX, hN, Nat.add_comm] at this
      rw [hone] at hMr
      have T5 := T3.below' hBr
      have hSPr := hSP.below hBr
      have hSCr := hSC.below hBr
      have hBw := nx hB hBr
      have PA := Lib.hid (path_at h)
      have PL := Lib.hid (path_last h)
      have PN := Lib.hid (path_nil h)
      rw [hP, hC] at PA; rw [hP] at PL PN
      rw [hN2] at PA PL PN
      have C6 := Lib.hid (fun W hW => lvl_ok x W h.lt hW)
      have C7 := Lib.hid (fun W => root_ok n W h.1)
      have HPl := Lib.hid hN2; have HCl := Lib.hid hN
      have h9 := lev_le h.lt
      obtain ⟨lx, hlx⟩ : ∃ lx, lev x = lx := ⟨_, rfl⟩
      rw [hlx] at PA C6 h9
      clear hone hX hC hP hN hN2 hXr hlx hne HXI HXl hBr hSP hSC hB hgx1 T3
      go_wp2_with fail
      have to1 : ((1 : Int) != 1) = false := by simp
      go_loop [125] (fun i => ∃ j : Nat, j ≤ n ∧ i = .int .i64 (j : Int)) (fun i => n - (intOf i).toNat)
      case atStart => exact ⟨0, Nat.zero_le _, rfl⟩
      case round =>
        obtain ⟨j, hj, rfl⟩ := hrel
        by_cases hjn : j < n
        · have hc1 := hMr.cell (iv_rng_get n (fun _ => 1) j hjn)
          go_wp2_with fail
          go_round
          case rel => exact ⟨j + 1, by omega, by go_num⟩
          case measure => simp [intOf]; omega
        · obtain rfl : j = n := by omega
          clear hMr
          go_wp2_with fail
          refine (C6.out _ T5).mono ?_; rintro e w6 ⟨rfl, hB6⟩
          go_wp2_with fail
          have hBw6 := nx hBw hB6
          have T6 := T5.below' hB6
          have hSP6 := hSPr.below hB6
          have hSC6 := hSCr.below hB6
          clear hBw hB6 T5 hSPr hSCr C6
          go_loopw [19, 139] (fun l i w7 => ∃ q : Nat, q ≤ N ∧ i = .int .i64 (q : Int) ∧ l = .int .i64 ((lx : Int) + (q : Int)) ∧ Below w6.heap.size w6 w7) (fun _ i _ => N - (intOf i).toNat)
          case atStart => exact ⟨0, Nat.zero_le _, rfl, by simp, Below.refl _ _⟩
          case round =>
            obtain ⟨q, hq, rfl, rfl, hB7⟩ := hrel
            by_cases hqn : q < N
            · obtain ⟨b, b1, b2, b3, b4, b5, b6⟩ := PA.out q hqn
              obtain ⟨u1, u2, _, _⟩ := b1.up b2
              have ho := up_odd b1 b2
              have lf := (leaves_fact b1).2.2.2 b2
              have L1 := Lib.hid (fun W hW => left_ok (upN b) W u1.lt ho.1 hW)
              have L2 := Lib.hid (fun W hW => right_ok (upN b) W u1.lt ho.1 hW)
              have L3 := Lib.hid (fun W hW => lvl_ok (upN b) W u1.lt hW)
              rw [u2, b5, show ((lx + q + 1 : Nat) : Int) = (lx : Int) + (q : Int) + 1 by omega] at L3
              obtain ⟨p, hp⟩ : ∃ p, upN b = p := ⟨_, rfl⟩
              obtain ⟨s, hs⟩ : ∃ s, sibN b = s := ⟨_, rfl⟩
              have hsb : s ≠ b := by rw [← hs]; exact ho.2
              rw [hp] at b3 L1 L2 L3 lf
              rw [hs] at b4 lf
              have T7 := T6.below' hB7
              have hSP7 := hSP6.below hB7
              have hSC7 := hSC6.below hB7
              obtain ⟨ad, hl, rfl, hc⟩ := hSP7.int hqn
              obtain ⟨e1, e2⟩ := nv_get _ q hl
              rw [b3] at e1
              rw [e2, ← Option.some.inj e1] at hc
              have iq : (q : Int) < (N : Int) := by omega
              have t1 : ((b : Int) == (b : Int)) = true := by simp
              have t2 : ((s : Int) == (s : Int)) = true := by simp
              have t3 : ((s : Int) == (b : Int)) = false := by rw [beq_eq_false_iff_ne]; omega
              have tk : ((lx : Int) + (q : Int) + 1 != (lx : Int) + (q : Int) + 1) = false := by simp
              have HB7 := Lib.hid hB7
              clear e1 e2 u1 u2 ho hsb b1 b2 b5 hp hs hB7 hSP6 hSC6
              rcases b6 with b6 | b6 <;> rcases lf with lf | lf
              · obtain ⟨_, _, _, lf1, lf2⟩ := lf
                rw [lf1] at L1; rw [lf2] at L2; clear lf1 lf2
                obtain ⟨hq0, rfl⟩ := b6
                have tq : decide ((0 : Int) < (q : Int)) = false := decide_eq_false (by omega)
                have tq' : decide (0 < q) = false := decide_eq_false (by omega)
                have tq'' : ¬ 0 < q := by omega
                clear hq0
                go_wp2_with fail
                refine (L1.out _ T7).mono ?_; rintro e w8 ⟨rfl, hB8⟩
                have T8 := T7.below' hB8
                go_wp2_with fail
                refine (L2.out _ T8).mono ?_; rintro e w9 ⟨rfl, hB9⟩
                have T9 := T8.below' hB9
                go_wp2_with fail
                refine (L3.out _ T9).mono ?_; rintro e w10 ⟨rfl, hB10⟩
                have HBA := Lib.hid (nx HB7.out (nx (nx hB8 hB9) hB10))
                obtain ⟨cd, hl2, rfl, hc2⟩ := (((hSC7.below hB8).below hB9).below hB10).int hqn
                obtain ⟨e1, e2⟩ := nv_get _ q hl2
                rw [b4] at e1
                rw [e2, ← Option.some.inj e1] at hc2
                clear e1 e2
                clear hB8 hB9 hB10 hSP7 hSC7 hc b3 b4 T7 T8 T9 L1 L2 L3
                go_wp2_with fail
                go_roundw
                case rel => exact ⟨q + 1, by omega, by go_num, by first | go_num | (congr 1; omega), HBA.out⟩
                case measure => simp [intOf]; omega
              · obtain ⟨_, _, _, lf2, lf1⟩ := lf
                rw [lf1] at L1; rw [lf2] at L2; clear lf1 lf2
                obtain ⟨hq0, rfl⟩ := b6
                have tq : decide ((0 : Int) < (q : Int)) = false := decide_eq_false (by omega)
                have tq' : decide (0 < q) = false := decide_eq_false (by omega)
                have tq'' : ¬ 0 < q := by omega
                clear hq0
                go_wp2_with fail
                refine (L1.out _ T7).mono ?_; rintro e w8 ⟨rfl, hB8⟩
                have T8 := T7.below' hB8
                go_wp2_with fail
                refine (L2.out _ T8).mono ?_; rintro e w9 ⟨rfl, hB9⟩
                have T9 := T8.below' hB9
                go_wp2_with fail
                refine (L3.out _ T9).mono ?_; rintro e w10 ⟨rfl, hB10⟩
                have HBA := Lib.hid (nx HB7.out (nx (nx hB8 hB9) hB10))
                obtain ⟨cd, hl2, rfl, hc2⟩ := (((hSC7.below hB8).below hB9).below hB10).int hqn
                obtain ⟨e1, e2⟩ := nv_get _ q hl2
                rw [b4] at e1
                rw [e2, ← Option.some.inj e1] at hc2
                clear e1 e2
                clear hB8 hB9 hB10 hSP7 hSC7 hc b3 b4 T7 T8 T9 L1 L2 L3
                go_wp2_with fail
                go_roundw
                case rel => exact ⟨q + 1, by omega, by go_num, by first | go_num | (congr 1; omega), HBA.out⟩
                case measure => simp [intOf]; omega
              · obtain ⟨_, _, _, lf1, lf2⟩ := lf
                rw [lf1] at L1; rw [lf2] at L2; clear lf1 lf2
                obtain ⟨b0, b7⟩ := b6
                obtain ⟨m, hm⟩ : ∃ m, q - 1 = m := ⟨_, rfl⟩
                rw [hm] at b7
                have eq1 : (q : Int) - 1 = (m : Int) := by omega
                have im : (m : Int) < (N : Int) := by omega
                have hmn : m < N := by omega
                have tq : decide ((0 : Int) < (q : Int)) = true := decide_eq_true (by omega)
                clear hm
                go_wp2_with fail
                refine (L1.out _ T7).mono ?_; rintro e w8 ⟨rfl, hB8⟩
                have T8 := T7.below' hB8
                go_wp2_with fail
                refine (L2.out _ T8).mono ?_; rintro e w9 ⟨rfl, hB9⟩
                have T9 := T8.below' hB9
                go_wp2_with fail
                refine (L3.out _ T9).mono ?_; rintro e w10 ⟨rfl, hB10⟩
                have HBA := Lib.hid (nx HB7.out (nx (nx hB8 hB9) hB10))
                obtain ⟨cd, hl2, rfl, hc2⟩ := (((hSC7.below hB8).below hB9).below hB10).int hqn
                obtain ⟨e1, e2⟩ := nv_get _ q hl2
                rw [b4] at e1
                rw [e2, ← Option.some.inj e1] at hc2
                clear e1 e2
                obtain ⟨ad2, hl3, ha, hc3⟩ := (((hSP7.below hB8).below hB9).below hB10).int hmn
                injection ha with ha; subst ha
                obtain ⟨e1, e2⟩ := nv_get _ m hl3
                rw [b7] at e1
                rw [e2, ← Option.some.inj e1] at hc3
                clear e1 e2
                clear hB8 hB9 hB10 hSP7 hSC7 hc b3 b4 T7 T8 T9 L1 L2 L3
                go_wp2_with fail
                go_roundw
                case rel => exact ⟨q + 1, by omega, by go_num, by first | go_num | (congr 1; omega), HBA.out⟩
                case measure => simp [intOf]; omega
              · obtain ⟨_, _, _, lf2, lf1⟩ := lf
                rw [lf1] at L1; rw [lf2] at L2; clear lf1 lf2
                obtain ⟨b0, b7⟩ := b6
                obtain ⟨m, hm⟩ : ∃ m, q - 1 = m := ⟨_, rfl⟩
                rw [hm] at b7
                have eq1 : (q : Int) - 1 = (m : Int) := by omega
                have im : (m : Int) < (N : Int) := by omega
                have hmn : m < N := by omega
                have tq : decide ((0 : Int) < (q : Int)) = true := decide_eq_true (by omega)
                clear hm
                go_wp2_with fail
                refine (L1.out _ T7).mono ?_; rintro e w8 ⟨rfl, hB8⟩
                have T8 := T7.below' hB8
                go_wp2_with fail
                refine (L2.out _ T8).mono ?_; rintro e w9 ⟨rfl, hB9⟩
                have T9 := T8.below' hB9
                go_wp2_with fail
                refine (L3.out _ T9).mono ?_; rintro e w10 ⟨rfl, hB10⟩
                have HBA := Lib.hid (nx HB7.out (nx (nx hB8 hB9) hB10))
                obtain ⟨cd, hl2, rfl, hc2⟩ := (((hSC7.below hB8).below hB9).below hB10).int hqn
                obtain ⟨e1, e2⟩ := nv_get _ q hl2
                rw [b4] at e1
                rw [e2, ← Option.some.inj e1] at hc2
                clear e1 e2
                obtain ⟨ad2, hl3, ha, hc3⟩ := (((hSP7.below hB8).below hB9).below hB10).int hmn
                injection ha with ha; subst ha
                obtain ⟨e1, e2⟩ := nv_get _ m hl3
                rw [b7] at e1
                rw [e2, ← Option.some.inj e1] at hc3
                clear e1 e2
                clear hB8 hB9 hB10 hSP7 hSC7 hc b3 b4 T7 T8 T9 L1 L2 L3
                go_wp2_with fail
                go_roundw
                case rel => exact ⟨q + 1, by omega, by go_num, by first | go_num | (congr 1; omega), HBA.out⟩
                case measure => simp [intOf]; omega
            · obtain rfl : q = N := by omega
              have hSP7 := hSP6.below hB7
              have hBw7 := nx hBw6 hB7
              clear hSP6 hSC6 hB7 hBw6 PA T6
              go_wp2_with fail
              refine (C7.out _).mono ?_; rintro e w8 ⟨rfl, hB8⟩
              have hSP8 := hSP7.below hB8
              have hBw8 := nx hBw7 hB8
              clear hSP7 hB8 hBw7 C7
              by_cases h0 : q = 0
              · subst h0
                have hx := PN.out rfl
                have tx : ((x : Int) == (j : Int) - 1) = true := by rw [beq_iff_eq]; omega
                clear hSP8 PN PL
                go_wp2_with fail
                go_ret
                exact ⟨rfl, hBw8⟩
              · obtain ⟨m, hm⟩ : ∃ m, q - 1 = m := ⟨_, rfl⟩
                have hpl := PL.out (by omega)
                rw [hm] at hpl
                obtain ⟨ad, hl, rfl, hc⟩ := hSP8.int (show m < q by omega)
                obtain ⟨e1, e2⟩ := nv_get _ m hl
                rw [hpl] at e1
                rw [e2, ← Option.some.inj e1] at hc
                have tq : ((q : Int) == 0) = false := by rw [beq_eq_false_iff_ne]; omega
                have tq2 : decide ((0 : Int) < (q : Int)) = true := decide_eq_true (by omega)
                have eq1 : (q : Int) - 1 = (m : Int) := by omega
                have en : ((j - 1 : Nat) : Int) = (j : Int) - 1 := by omega
                rw [en] at hc
                have tn : ((j : Int) - 1 == (j : Int) - 1) = true := by simp
                have im : (m : Int) < (q : Int) := by omega
                clear e1 e2 hpl hm h0 PN PL hSP8 en
                go_wp2_with fail
                go_ret
                exact ⟨rfl, hBw8⟩
set_option maxRecDepth 100000 in
theorem partsNo (x n : Int) (w : World) (h : ¬ InsI x n) (hT : Tab w) :
    Calls Tryd.prog 4 #[.int .i64 x, .int .i64 n] w fun e w' => e = .returned (.bool true) ∧ Below w.heap.size w w' := by
  have C1 := Lib.hid (fun W => cop_no x n W h)
  have C2 := Lib.hid (fun W => path_no x n W h)
  clear h
  by_cases h1 : n < 1
  · have t1 : decide (n < 1) = true := decide_eq_true h1
    go_enter Tryd.func4, Tryd.ntmps4
    go_wp2_with fail
    refine (lead w hT).mono ?_; rintro e w1 ⟨rfl, hB1⟩
    go_wp2_with fail
    refine (C1.out _).mono ?_; rintro e w' ⟨rfl, rfl⟩
    go_wp2_with fail
    refine (C2.out _).mono ?_; rintro e w' ⟨rfl, rfl⟩
    go_wp2_with fail
    go_ret
    exact ⟨rfl, hB1⟩
  · have t1 : decide (n < 1) = false := decide_eq_false h1
    by_cases h2 : 256 < n
    · have t2 : decide (256 < n) = true := decide_eq_true h2
      go_enter Tryd.func4, Tryd.ntmps4
      go_wp2_with fail
      refine (lead w hT).mono ?_; rintro e w1 ⟨rfl, hB1⟩
      go_wp2_with fail
      refine (C1.out _).mono ?_; rintro e w' ⟨rfl, rfl⟩
      go_wp2_with fail
      refine (C2.out _).mono ?_; rintro e w' ⟨rfl, rfl⟩
      go_wp2_with fail
      go_ret
      exact ⟨rfl, hB1⟩
    · have t2 : decide (256 < n) = false := decide_eq_false h2
      go_enter Tryd.func4, Tryd.ntmps4
      go_wp2_with fail
      refine (lead w hT).mono ?_; rintro e w1 ⟨rfl, hB1⟩
      go_wp2_with fail
      refine (C1.out _).mono ?_; rintro e w' ⟨rfl, rfl⟩
      go_wp2_with fail
      refine (C2.out _).mono ?_; rintro e w' ⟨rfl, rfl⟩
      go_wp2_with fail
      go_ret
      exact ⟨rfl, hB1⟩
theorem partsWalk (x n : Int) (w : World) (_ : -9223372036854775808 ≤ x ∧ x ≤ 9223372036854775807) (_ : -9223372036854775808 ≤ n ∧ n ≤ 9223372036854775807) (hT : Tab w) :
    Calls Tryd.prog 4 #[.int .i64 x, .int .i64 n] w fun e w' => e = .returned (.bool true) ∧ Below w.heap.size w w' := by
  by_cases h : InsI x n
  · obtain ⟨a, b, rfl, rfl, hab⟩ : ∃ a b : Nat, x = a ∧ n = b ∧ Ins a b := ⟨x.toNat, n.toNat, by have := h.1; omega, by have := h.2.1; omega, h.2.2⟩
    exact partsMain a b w hab hT
  · exact partsNo x n w h hT
end Go.Proofs.YtieeinppoiihpaaDoor
