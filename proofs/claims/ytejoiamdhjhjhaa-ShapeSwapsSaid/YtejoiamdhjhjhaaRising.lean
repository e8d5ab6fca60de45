/- The walk of the reference's Rising. -/
import Derived.Test.YtejoiamdhjhjhaaRisingP
import Derived.Deep.RegionHeldLaw
namespace Go.Proofs.Ytejoiamdhjhjhaa
open Go.RowKit

theorem step_app {P : Program} {w : World} {ops : Array Oper} {o : Oper} {a : Act} {K : Act → World → Prop} {Q : Exit → Act → World → Prop} {X : Prop} {s x : Operand} {t : TypeId}
    {base : Nat} {e : TypeId} {z : Value} {size bytes : Nat} (E : Elem P t e z size bytes) (hg : o.guard = none)
    (ho : o.op = .call { callee := .builtin .append, args := #[s, x], argTypes := #[t, t] })
    {A0 : Option Addr} {n c0 : Nat} {xs : List Value} (hs : a.eval s = .slice A0 n c0) (hown : Ow w base e size A0 n c0 xs)
    {A : Option Addr} {m c : Nat} {news : List Value} (hx : a.eval x = .slice A m c) (hl : Lies w A news) (hm : news.length = m * size) (h1 : ∀ u ∈ news, u.oneCell' = true)
    (h63 : n + m ≤ maxLen) (hbytes : (n + m) * bytes ≤ 140737488355328) (hbase : base ≤ w.heap.size)
    (h : ∀ A' c' w', Ow w' base e size A' (n + m) c' (xs ++ news) → w.grownBy w' (Value.slice A0 n c0).ownBlock → Below base w w' → K (a.put o.dst (.slice A' (n + m) c')) w') :
    if Region.wanted o (yielded ops a.tmps) = true then Oper.wp P o a w K Q else X := by
  have hw : Region.wanted o (yielded ops a.tmps) = true := by simp [Region.wanted, hg]
  rw [if_pos hw]
  exact wp_app E ho hs hown hx hl hm h1 h63 hbytes hbase h
theorem step_app0 {P : Program} {w : World} {ops : Array Oper} {o : Oper} {a : Act} {K : Act → World → Prop} {Q : Exit → Act → World → Prop} {X : Prop} {s x : Operand} {t : TypeId}
    (base : Nat) {e : TypeId} {z : Value} {size bytes : Nat} (E : Elem P t e z size bytes) (hg : o.guard = none)
    (ho : o.op = .call { callee := .builtin .append, args := #[s, x], argTypes := #[t, t] }) (hs : a.eval s = .slice none 0 0)
    {A : Option Addr} {m c : Nat} {news : List Value} (hx : a.eval x = .slice A m c) (hl : Lies w A news) (hm : news.length = m * size) (h1 : ∀ u ∈ news, u.oneCell' = true)
    (h63 : m ≤ maxLen) (hbytes : m * bytes ≤ 140737488355328) (hbase : base ≤ w.heap.size)
    (h : ∀ A' c' w', Ow w' base e size A' m c' news → w.grownBy w' none → Below base w w' → K (a.put o.dst (.slice A' m c')) w') :
    if Region.wanted o (yielded ops a.tmps) = true then Oper.wp P o a w K Q else X :=
  step_app E hg ho hs (Ow.nil w base e size) hx hl hm h1 (by omega) (by rw [Nat.zero_add]; exact hbytes) hbase fun A' c' w' h2 h3 h4 => by
    rw [Nat.zero_add, List.nil_append] at h2
    rw [Nat.zero_add]
    exact h A' c' w' h2 h3 h4
theorem Lies.grown0 {w w' : World} {A : Option Addr} {xs : List Value} (h : Lies w A xs) (hg : w.grownBy w' none) : Lies w' A xs :=
  h.keep fun p hp => World.cell?_of_block (hg.block _ hp (by intro e; cases e))
theorem iv_ins (o : List Int) (a : Nat) (x : Int) : iv (ins o a x) = (iv o).take a ++ [.int .i64 x] ++ (iv o).drop a := by
  unfold ins; rw [iv_append, iv_append, iv_take, iv_drop]; rfl
def RPost (w : World) (p : List Int) (e : Ending) (w' : World) : Prop :=
  ∃ (r : List Int) (A' : Option Addr) (c' : Nat), e = .returned (.slice A' r.length c') ∧ RiseOf p r ∧ r.length ≤ p.length ∧ Ow w' w.heap.size 3 1 A' r.length c' (iv r) ∧ Below w.heap.size w w'
set_option maxRecDepth 100000 in
set_option maxHeartbeats 40000000 in
theorem rising_ok (A : Option Addr) (n c : Nat) (p : List Int) (w : World) (h : Sl w A n c (iv p)) (hn : n ≤ 1000) :
    Calls Try.prog 36 #[.slice A n c] w fun e w' => RPost w p e w' := by
  have HL : Hid (p.length = n) := by have := h.len; rwa [iv_length] at this
  go_enter Try.func36, Try.ntmps36
  go_wp2_with fail
  go_loopw [3, 9] (fun v i wr => ∃ (k : Nat) (o : List Int) (A' : Option Addr) (c' : Nat), k ≤ n ∧ i = .int .i64 (k : Int) ∧ Hid (RiseOf (p.take k) o) ∧ o.length ≤ k ∧ v = .slice A' o.length c' ∧ Ow wr w.heap.size 3 1 A' o.length c' (iv o) ∧ Hid (o = [] → A' = none ∧ c' = 0) ∧ Below w.heap.size w wr) (fun _ i _ => n - (intOf i).toNat)
  case atStart => exact ⟨0, [], none, 0, Nat.zero_le _, rfl, Lib.hid ⟨List.Pairwise.nil, by simp⟩, Nat.le_refl _, rfl, Ow.nil _ _ _ _, Lib.hid (fun _ => ⟨rfl, rfl⟩), Below.refl _ w⟩
  case round =>
    obtain ⟨k, o, A', c', hk, rfl, HR, hok, rfl, hO, H0, hB⟩ := hrel
    by_cases hlt : k < n
    · obtain ⟨ad, hl, rfl, hc⟩ := (h.below hB).int hlt
      obtain ⟨x, hx⟩ : ∃ x, p[k]'hl = x := ⟨_, rfl⟩
      have hx2 : p[k]? = some x := by rw [List.getElem?_eq_getElem hl, hx]
      rw [hx] at hc
      have HX := Lib.hid hx2
      have HM : Hid (∀ y, y ∈ p.take (k + 1) ↔ y ∈ o ∨ y = x) := Lib.hid (fun y => by
        rw [List.take_add_one, hx2, Option.toList_some, List.mem_append, HR.out.2 y, List.mem_singleton])
      have hS := hO.sl
      obtain ⟨N, hN⟩ : ∃ N, o.length = N := ⟨_, rfl⟩
      rw [hN] at hO hS hok ⊢
      have HN := Lib.hid hN
      have hNc := hS.cap
      have hct := hS.top
      unfold maxLen at hct
      clear hx hx2 hN
      go_wp2_with fail
      go_loopw [6] (fun i w2 => ∃ a : Nat, a ≤ N ∧ i = .int .i64 (a : Int) ∧ Hid (∀ j y, a ≤ j → o[j]? = some y → x < y) ∧ w2 = wr) (fun i _ => (intOf i).toNat)
      case atStart => exact ⟨N, Nat.le_refl _, rfl, Lib.hid (fun j y hj hy => by have := (List.getElem?_eq_some_iff.1 hy).1; rw [HN.out] at this; omega), rfl⟩
      case round =>
        obtain ⟨a, ha, rfl, HA, rfl⟩ := hrel
        rcases Nat.eq_zero_or_pos a with h0 | h0
        · subst h0
          have mixed : Try.prog.follows Departure.mixedOrders = true := by kernel_rfl
          have HRI : Hid (RiseOf (p.take (k + 1)) (ins o 0 x)) := Lib.hid ⟨ins_rise HR.out.1 HA.out (fun j u hj => absurd hj (Nat.not_lt_zero _)), fun u => by rw [mem_ins, HM.out u]⟩
          by_cases hN0 : N = 0
          · subst hN0
            have ho0 : o = [] := List.eq_nil_of_length_eq_zero HN.out
            obtain ⟨rfl, rfl⟩ := H0.out ho0
            have hlp : Lies wr.drew none ((iv o).take 0) := .inl (by simp)
            have hlc : Lies wr none ((iv o).drop 0) := .inl (by rw [ho0]; rfl)
            clear hO hS ho0
            go_wp2_with fail
            have HTL : Hid (((iv o).take (0)).length = (0) * 1) := Lib.hid (by rw [List.length_take, iv_length, HN.out] <;> omega)
            have HDL : Hid (((iv o).drop (0)).length = (0) * 1) := Lib.hid (by rw [List.length_drop, iv_length, HN.out] <;> omega)
            go_region_held_law (fun _ => True) (exact trivial) (first
              | (refine step_app0 wr.heap.size (s := .const (.slice none 0 0)) (x := .tmp 41) (t := 25) (m := 0) (c := 0) E25 rfl rfl (by with_unfolding_all rfl) (by with_unfolding_all rfl) (by first | exact hlp | exact hlp.alloc _) HTL.out (fun u hu => iv_one o u (List.mem_of_mem_take hu)) (by unfold maxLen; omega) (by omega) (by simp) ?_; intro A4 c4 w4 hO4 hG4 hB4; have hb4 : Below wr.heap.size wr w4 := by first | exact ((Below.refl _ wr).drew).trans hB4 | exact (((Below.refl _ wr).drew).alloc (Nat.le_refl _) _).trans hB4)
              | (refine step_app (s := .tmp 42) (x := .tmp 44) (base := wr.heap.size) (t := 25) (n := 0) (m := 1) (c := 1) (news := [.int .i64 x]) E25 rfl rfl (by with_unfolding_all rfl) (by first | exact hO4 | exact hO4.alloc _) (by with_unfolding_all rfl) (by first | exact lies_new _ _ 3 | exact (lies_new wr.drew (.int .i64 x) 3).grown0 hG4) rfl (by simp [Value.oneCell']) (by unfold maxLen; omega) (by omega) (by first | exact hb4.size | exact Nat.le_trans hb4.size (by simp)) ?_; intro A5 c5 w5 hO5 hG5 hB5; have hb5 : Below wr.heap.size wr w5 := by first | exact hb4.trans hB5 | exact (hb4.alloc hb4.size _).trans hB5)
              | (refine step_app (s := .tmp 45) (x := .tmp 48) (base := wr.heap.size) (t := 25) (n := 0 + 1) (m := 0) (c := 0) (news := (iv o).drop (0)) E25 rfl rfl (by with_unfolding_all rfl) hO5 (by with_unfolding_all rfl) (hlc.below hb5) HDL.out (fun u hu => iv_one o u (List.mem_of_mem_drop hu)) (by unfold maxLen; omega) (by omega) hb5.size ?_; intro A6 c6 w6 hO6 hG6 hB6; have hb6 : Below wr.heap.size wr w6 := hb5.trans hB6))
            all_goals
              have hE : 0 + 1 + 0 = 0 + 1 := by omega
              rw [hE] at hO6
              have hO7 : Ow w6 w.heap.size 3 1 A6 (0 + 1) c6 (iv (ins o (0) x)) := by rw [iv_ins]; exact hO6.mono hB.size
              have hB7 := nx hB hb6
              clear hO4 hG4 hB4 hb4 hO5 hG5 hB5 hb5 hO6 hG6 hB6 hb6
              go_simp
              go_wp2_with fail
              go_roundw
              case rel => exact ⟨k + 1, ins o (0) x, A6, c6, by omega, by go_num, HRI, by rw [ins_len, HN.out]; omega, by rw [ins_len, HN.out] <;> first | rfl | (congr 1; omega), by rw [ins_len, HN.out]; exact hO7, Lib.hid (fun e => by have := congrArg List.length e; rw [ins_len] at this; simp at this), hB7⟩
              case measure => simp [intOf]; omega
          · obtain ⟨g, rfl, hg1, hg2⟩ := hO.form (by omega)
            have hlp : Lies wr.drew (some ⟨g, 0, none⟩) ((iv o).take 0) := .inl (by simp)
            have hlc : Lies wr (some ⟨g, 0, none⟩) ((iv o).drop 0) := hO.lies
            have b1 : ¬ (c' = 0) := by omega
            have v2 : (0 : Int) ≤ (c' : Int) := by omega
            have v4 : (0 : Int) ≤ (N : Int) := by omega
            clear hO hS
            go_wp2_with fail
            have HTL : Hid (((iv o).take (0)).length = (0) * 1) := Lib.hid (by rw [List.length_take, iv_length, HN.out] <;> omega)
            have HDL : Hid (((iv o).drop (0)).length = (N) * 1) := Lib.hid (by rw [List.length_drop, iv_length, HN.out] <;> omega)
            go_region_held_law (fun _ => True) (exact trivial) (first
              | (refine step_app0 wr.heap.size (s := .const (.slice none 0 0)) (x := .tmp 41) (t := 25) (m := 0) (c := c') E25 rfl rfl (by with_unfolding_all rfl) (by with_unfolding_all rfl) (by first | exact hlp | exact hlp.alloc _) HTL.out (fun u hu => iv_one o u (List.mem_of_mem_take hu)) (by unfold maxLen; omega) (by omega) (by simp) ?_; intro A4 c4 w4 hO4 hG4 hB4; have hb4 : Below wr.heap.size wr w4 := by first | exact ((Below.refl _ wr).drew).trans hB4 | exact (((Below.refl _ wr).drew).alloc (Nat.le_refl _) _).trans hB4)
              | (refine step_app (s := .tmp 42) (x := .tmp 44) (base := wr.heap.size) (t := 25) (n := 0) (m := 1) (c := 1) (news := [.int .i64 x]) E25 rfl rfl (by with_unfolding_all rfl) (by first | exact hO4 | exact hO4.alloc _) (by with_unfolding_all rfl) (by first | exact lies_new _ _ 3 | exact (lies_new wr.drew (.int .i64 x) 3).grown0 hG4) rfl (by simp [Value.oneCell']) (by unfold maxLen; omega) (by omega) (by first | exact hb4.size | exact Nat.le_trans hb4.size (by simp)) ?_; intro A5 c5 w5 hO5 hG5 hB5; have hb5 : Below wr.heap.size wr w5 := by first | exact hb4.trans hB5 | exact (hb4.alloc hb4.size _).trans hB5)
              | (refine step_app (s := .tmp 45) (x := .tmp 48) (base := wr.heap.size) (t := 25) (n := 0 + 1) (m := N) (c := c') (news := (iv o).drop (0)) E25 rfl rfl (by with_unfolding_all rfl) hO5 (by with_unfolding_all rfl) (hlc.below hb5) HDL.out (fun u hu => iv_one o u (List.mem_of_mem_drop hu)) (by unfold maxLen; omega) (by omega) hb5.size ?_; intro A6 c6 w6 hO6 hG6 hB6; have hb6 : Below wr.heap.size wr w6 := hb5.trans hB6))
            all_goals
              have hE : 0 + 1 + N = N + 1 := by omega
              rw [hE] at hO6
              have hO7 : Ow w6 w.heap.size 3 1 A6 (N + 1) c6 (iv (ins o (0) x)) := by rw [iv_ins]; exact hO6.mono hB.size
              have hB7 := nx hB hb6
              clear hO4 hG4 hB4 hb4 hO5 hG5 hB5 hb5 hO6 hG6 hB6 hb6
              go_simp
              go_wp2_with fail
              go_roundw
              case rel => exact ⟨k + 1, ins o (0) x, A6, c6, by omega, by go_num, HRI, by rw [ins_len, HN.out]; omega, by rw [ins_len, HN.out] <;> first | rfl | (congr 1; omega), by rw [ins_len, HN.out]; exact hO7, Lib.hid (fun e => by have := congrArg List.length e; rw [ins_len] at this; simp at this), hB7⟩
              case measure => simp [intOf]; omega
        · obtain ⟨a, rfl⟩ : ∃ b, a = b + 1 := ⟨a - 1, by omega⟩
          obtain ⟨g, rfl, hg1, hg2⟩ := hO.form (by omega)
          obtain ⟨ad2, hl2, e2, hc2⟩ := hS.int (k := a) (by omega)
          injection e2 with e2; subst e2
          obtain ⟨y, hy⟩ : ∃ y, o[a]'hl2 = y := ⟨_, rfl⟩
          have hy2 : o[a]? = some y := by rw [List.getElem?_eq_getElem hl2, hy]
          rw [hy] at hc2
          rw [add_mk, Nat.zero_add] at hc2
          have HY := Lib.hid hy2
          have z1 : ((a + 1 : Nat) : Int) - 1 = (a : Int) := by omega
          have z2 : decide ((0 : Int) < ((a + 1 : Nat) : Int)) = true := decide_eq_true (by omega)
          clear hy hy2
          by_cases hlt2 : x < y
          · have t1 : decide (x < y) = true := decide_eq_true hlt2
            clear hg1 hg2 hO
            go_wp2_with fail
            go_roundw
            case rel => exact ⟨a, by omega, by go_num, Lib.hid (fun j u hj hu => by
              rcases Nat.lt_or_eq_of_le hj with q | q
              · exact HA.out j u q hu
              · subst q; rw [HY.out] at hu; injection hu with hu; subst hu; exact hlt2), trivial⟩
            case measure => simp [intOf]
          · have t1 : decide (x < y) = false := decide_eq_false hlt2
            by_cases he : y = x
            · have t2 : (y == x) = true := by rw [beq_iff_eq]; exact he
              have HM2 : Hid (RiseOf (p.take (k + 1)) o) := Lib.hid ⟨HR.out.1, fun u => by
                rw [HM.out u]
                exact ⟨.inl, fun q => q.elim id (fun e => by subst e; subst he; exact List.mem_of_getElem? HY.out)⟩⟩
              go_wp2_with fail
              go_roundw
              case rel => exact ⟨k + 1, o, _, c', by omega, by go_num, HM2, by rw [HN.out]; omega, by rw [HN.out], by rw [HN.out]; exact hO, H0, hB⟩
              case measure => simp [intOf]; omega
            · have t2 : (y == x) = false := by rw [beq_eq_false_iff_ne]; exact he
              go_wp2_with fail
              have v2 : (a : Int) + 1 ≤ (c' : Int) := by omega
              have v3 : (0 : Int) ≤ (a : Int) + 1 := by omega
              have v4 : (a : Int) + 1 ≤ (N : Int) := by omega
              have HRI : Hid (RiseOf (p.take (k + 1)) (ins o (a + 1) x)) := Lib.hid ⟨ins_rise HR.out.1 HA.out (fun j u hj hu => by
                rcases Nat.lt_or_eq_of_le (Nat.le_of_lt_succ hj) with q | q
                · have := rise_lt HR.out.1 hu HY.out q; omega
                · subst q; rw [HY.out] at hu; injection hu with hu; omega), fun u => by rw [mem_ins, HM.out u]⟩
              have hlp : Lies wr.drew (some ⟨g, 0, none⟩) ((iv o).take (a + 1)) := hO.lies.take (a + 1)
              have mixed : Try.prog.follows Departure.mixedOrders = true := by kernel_rfl
              by_cases hca : c' = a + 1
              · subst hca
                obtain rfl : N = a + 1 := by omega
                have hlc : Lies wr (some ⟨g, 0, none⟩) ((iv o).drop (a + 1)) := .inl (List.drop_eq_nil_of_le (by rw [iv_length, HN.out]; omega))
                have HTL : Hid (((iv o).take (a + 1)).length = (a + 1) * 1) := Lib.hid (by rw [List.length_take, iv_length, HN.out] <;> omega)
                have HDL : Hid (((iv o).drop (a + 1)).length = (0) * 1) := Lib.hid (by rw [List.length_drop, iv_length, HN.out] <;> omega)
                go_region_held_law (fun _ => True) (exact trivial) (first
                  | (refine step_app0 wr.heap.size (s := .const (.slice none 0 0)) (x := .tmp 41) (t := 25) (m := a + 1) (c := (a + 1)) E25 rfl rfl (by with_unfolding_all rfl) (by with_unfolding_all rfl) (by first | exact hlp | exact hlp.alloc _) HTL.out (fun u hu => iv_one o u (List.mem_of_mem_take hu)) (by unfold maxLen; omega) (by omega) (by simp) ?_; intro A4 c4 w4 hO4 hG4 hB4; have hb4 : Below wr.heap.size wr w4 := by first | exact ((Below.refl _ wr).drew).trans hB4 | exact (((Below.refl _ wr).drew).alloc (Nat.le_refl _) _).trans hB4)
                  | (refine step_app (s := .tmp 42) (x := .tmp 44) (base := wr.heap.size) (t := 25) (n := a + 1) (m := 1) (c := 1) (news := [.int .i64 x]) E25 rfl rfl (by with_unfolding_all rfl) (by first | exact hO4 | exact hO4.alloc _) (by with_unfolding_all rfl) (by first | exact lies_new _ _ 3 | exact (lies_new wr.drew (.int .i64 x) 3).grown0 hG4) rfl (by simp [Value.oneCell']) (by unfold maxLen; omega) (by omega) (by first | exact hb4.size | exact Nat.le_trans hb4.size (by simp)) ?_; intro A5 c5 w5 hO5 hG5 hB5; have hb5 : Below wr.heap.size wr w5 := by first | exact hb4.trans hB5 | exact (hb4.alloc hb4.size _).trans hB5)
                  | (refine step_app (s := .tmp 45) (x := .tmp 48) (base := wr.heap.size) (t := 25) (n := a + 1 + 1) (m := 0) (c := 0) (news := (iv o).drop (a + 1)) E25 rfl rfl (by with_unfolding_all rfl) hO5 (by with_unfolding_all rfl) (hlc.below hb5) HDL.out (fun u hu => iv_one o u (List.mem_of_mem_drop hu)) (by unfold maxLen; omega) (by omega) hb5.size ?_; intro A6 c6 w6 hO6 hG6 hB6; have hb6 : Below wr.heap.size wr w6 := hb5.trans hB6))
                all_goals
                  have hE : a + 1 + 1 + 0 = a + 1 + 1 := by omega
                  rw [hE] at hO6
                  have hO7 : Ow w6 w.heap.size 3 1 A6 (a + 1 + 1) c6 (iv (ins o (a + 1) x)) := by rw [iv_ins]; exact hO6.mono hB.size
                  have hB7 := nx hB hb6
                  clear hO4 hG4 hB4 hb4 hO5 hG5 hB5 hb5 hO6 hG6 hB6 hb6
                  go_simp
                  go_wp2_with fail
                  go_roundw
                  case rel => exact ⟨k + 1, ins o (a + 1) x, A6, c6, by omega, by go_num, HRI, by rw [ins_len, HN.out]; omega, by rw [ins_len, HN.out] <;> first | rfl | (congr 1; omega), by rw [ins_len, HN.out]; exact hO7, Lib.hid (fun e => by have := congrArg List.length e; rw [ins_len] at this; simp at this), hB7⟩
                  case measure => simp [intOf]; omega
              · have hlc : Lies wr (some ⟨g, a + 1, none⟩) ((iv o).drop (a + 1)) := by
                  have := hO.lies.cut (a + 1)
                  rwa [Option.map_some, add_mk, Nat.zero_add] at this
                have HTL : Hid (((iv o).take (a + 1)).length = (a + 1) * 1) := Lib.hid (by rw [List.length_take, iv_length, HN.out] <;> omega)
                have HDL : Hid (((iv o).drop (a + 1)).length = ((N - (a + 1))) * 1) := Lib.hid (by rw [List.length_drop, iv_length, HN.out] <;> omega)
                go_region_held_law (fun _ => True) (exact trivial) (first
                  | (refine step_app0 wr.heap.size (s := .const (.slice none 0 0)) (x := .tmp 41) (t := 25) (m := a + 1) (c := c') E25 rfl rfl (by with_unfolding_all rfl) (by with_unfolding_all rfl) (by first | exact hlp | exact hlp.alloc _) HTL.out (fun u hu => iv_one o u (List.mem_of_mem_take hu)) (by unfold maxLen; omega) (by omega) (by simp) ?_; intro A4 c4 w4 hO4 hG4 hB4; have hb4 : Below wr.heap.size wr w4 := by first | exact ((Below.refl _ wr).drew).trans hB4 | exact (((Below.refl _ wr).drew).alloc (Nat.le_refl _) _).trans hB4)
                  | (refine step_app (s := .tmp 42) (x := .tmp 44) (base := wr.heap.size) (t := 25) (n := a + 1) (m := 1) (c := 1) (news := [.int .i64 x]) E25 rfl rfl (by with_unfolding_all rfl) (by first | exact hO4 | exact hO4.alloc _) (by with_unfolding_all rfl) (by first | exact lies_new _ _ 3 | exact (lies_new wr.drew (.int .i64 x) 3).grown0 hG4) rfl (by simp [Value.oneCell']) (by unfold maxLen; omega) (by omega) (by first | exact hb4.size | exact Nat.le_trans hb4.size (by simp)) ?_; intro A5 c5 w5 hO5 hG5 hB5; have hb5 : Below wr.heap.size wr w5 := by first | exact hb4.trans hB5 | exact (hb4.alloc hb4.size _).trans hB5)
                  | (refine step_app (s := .tmp 45) (x := .tmp 48) (base := wr.heap.size) (t := 25) (n := a + 1 + 1) (m := (N - (a + 1))) (c := c' - (a + 1)) (news := (iv o).drop (a + 1)) E25 rfl rfl (by with_unfolding_all rfl) hO5 (by with_unfolding_all rfl) (hlc.below hb5) HDL.out (fun u hu => iv_one o u (List.mem_of_mem_drop hu)) (by unfold maxLen; omega) (by omega) hb5.size ?_; intro A6 c6 w6 hO6 hG6 hB6; have hb6 : Below wr.heap.size wr w6 := hb5.trans hB6))
                all_goals
                  have hE : a + 1 + 1 + (N - (a + 1)) = N + 1 := by omega
                  rw [hE] at hO6
                  have hO7 : Ow w6 w.heap.size 3 1 A6 (N + 1) c6 (iv (ins o (a + 1) x)) := by rw [iv_ins]; exact hO6.mono hB.size
                  have hB7 := nx hB hb6
                  clear hO4 hG4 hB4 hb4 hO5 hG5 hB5 hb5 hO6 hG6 hB6 hb6
                  go_simp
                  go_wp2_with fail
                  go_roundw
                  case rel => exact ⟨k + 1, ins o (a + 1) x, A6, c6, by omega, by go_num, HRI, by rw [ins_len, HN.out]; omega, by rw [ins_len, HN.out] <;> first | rfl | (congr 1; omega), by rw [ins_len, HN.out]; exact hO7, Lib.hid (fun e => by have := congrArg List.length e; rw [ins_len] at this; simp at this), hB7⟩
                  case measure => simp [intOf]; omega
    · obtain rfl : k = n := by omega
      have hT : p.take k = p := by rw [← HL.out, List.take_length]
      have HR2 : Hid (RiseOf p o) := Lib.hid (by have := HR.out; rwa [hT] at this)
      clear hT
      go_wp2_with fail
      go_ret
      exact ⟨o, A', c', rfl, HR2.out, by rw [HL.out]; exact hok, hO, hB⟩
end Go.Proofs.Ytejoiamdhjhjhaa
