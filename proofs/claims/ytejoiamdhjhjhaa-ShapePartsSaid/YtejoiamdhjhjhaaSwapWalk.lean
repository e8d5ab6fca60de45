/- The walk of shape.Swap. -/
import Derived.Test.YtejoiamdhjhjhaaSwap
namespace Go.Proofs.Ytejoiamdhjhjhaa
open Go.RowKit

theorem ptrs_at (g o : Nat) (l : List Nat) (j i : Nat) (h : l[j]? = some i) : (ptrs g o l)[j]? = some (.pointer (some ⟨g, o + i, none⟩)) := by simp [ptrs, h]
theorem Ow.tg {w : World} {base g n c : Nat} {e : TypeId} {size : Nat} {xs : List Value} (h : Ow w base e size (some ⟨g, 0, none⟩) n c xs) : Tg w g e := by
  rcases h.2 with ⟨hv, _⟩ | ⟨g', cap, cur, hv, _, hh, _⟩
  · cases hv
  · injection hv with e1; injection e1 with e1; injection e1 with e1
    subst e1; exact ⟨_, _, hh⟩
/-- a field's cell in one's own row of steps -/
theorem Ow.fldAt {w : World} {base g n c : Nat} {l : List St} (h : Ow w base 31 3 (some ⟨g, 0, none⟩) n c (svs l)) {q : Nat} {s : St} (hs : l[q]? = some s) {i : Nat} (hi : i = 1 ∨ i = 2) : w.cell? ⟨g, q * 3 + i, none⟩ = some (.int .i64 (fld s i)) := by
  obtain ⟨_, h1, h2⟩ := svs_get l q s hs
  have hl := h.1
  rw [svs_len] at hl
  have hq := (List.getElem?_eq_some_iff.1 hs).1
  rw [World.ownsRow.cellAt h (q * 3 + i) (by omega), Nat.mul_comm q 3]
  rcases hi with rfl | rfl
  · exact h1
  · exact h2
theorem Ow.kndAt {w : World} {base g n c : Nat} {l : List St} (h : Ow w base 31 3 (some ⟨g, 0, none⟩) n c (svs l)) {q : Nat} {s : St} (hs : l[q]? = some s) : w.cell? ⟨g, q * 3, none⟩ = some (.int .i64 s.d) := by
  obtain ⟨h0, _, _⟩ := svs_get l q s hs
  have hl := h.1
  rw [svs_len] at hl
  have hq := (List.getElem?_eq_some_iff.1 hs).1
  rw [World.ownsRow.cellAt h (q * 3) (by omega), Nat.mul_comm q 3]
  exact h0
def SwPost (w : World) (p : List Int) (l : List St) (n : Nat) (e : Ending) (w' : World) : Prop :=
  ((IsP p ∧ ∀ s ∈ l, InR p s) ∧ ∃ A' c', e = .returned (.tuple #[.slice A' n c', .int .i64 0]) ∧ Ow w' w.heap.size 31 3 A' n c' (svs (l.map (swF p))) ∧ Below w.heap.size w w') ∨
  (¬ (IsP p ∧ ∀ s ∈ l, InR p s) ∧ e = .returned (.tuple #[.slice none 0 0, .int .i64 1]) ∧ Below w.heap.size w w')
set_option maxRecDepth 100000 in
set_option maxHeartbeats 4000000 in
theorem swap_ok (A : Option Addr) (n c : Nat) (l : List St) (B : Option Addr) (m d : Nat) (p : List Int) (w : World) (h : Ss w A n c l) (k : Sl w B m d (iv p)) (hn : n ≤ 1000) (hm : m ≤ 1000) :
    Calls Try.prog 17 #[.slice A n c, .slice B m d] w fun e w' => SwPost w p l n e w' := by
  have HL := Lib.hid h.len
  have HP : Hid (p.length = m) := by have := k.len; rwa [iv_length] at this
  have H1 := Lib.hid (inv_ok B m d p w k hm)
  have H2 := Lib.hid (fun W hW => clone_ok A n c l W hW hn)
  go_enter Try.func17, Try.ntmps17
  go_wp2_with fail
  refine H1.out.mono ?_
  rintro e w1 (⟨hp, A1, c1, rfl, hO1, hB1⟩ | ⟨hp, rfl, hB1⟩)
  rotate_left
  · go_wp2_with fail
    go_ret2
    exact .inr ⟨fun q => hp q.1, rfl, hB1⟩
  · have h1 := h.below hB1
    have HPP := Lib.hid hp
    have HK := Lib.hid k
    clear hO1 hp h k H1
    go_wp2_with fail
    refine (H2.out _ h1).mono ?_
    rintro e w2 ⟨A2, c2, rfl, hO2, hB2⟩
    have hO := hO2.mono hB1.size
    have hB := nx hB1 hB2
    clear h1 hO2 hB1 hB2 H2
    go_wp2_with fail
    go_loopw [23] (fun i wr => ∃ (q : Nat) (cur : List St), q ≤ n ∧ i = .int .i64 (q : Int) ∧ Ow wr w.heap.size 31 3 A2 n c2 (svs cur) ∧ Hid (∀ r, cur[r]? = if r < q then (l[r]?).map (swF p) else l[r]?) ∧ Hid (∀ r s, r < q → l[r]? = some s → InR p s) ∧ Below w.heap.size w wr) (fun i _ => n - (intOf i).toNat)
    case atStart => exact ⟨0, l, Nat.zero_le _, rfl, hO, Lib.hid (fun r => by rw [if_neg (Nat.not_lt_zero _)]), Lib.hid (fun r s hr => absurd hr (Nat.not_lt_zero _)), hB⟩
    case round =>
      clear hO hB
      obtain ⟨q, cur, hq, rfl, hO, HC, HI, hB⟩ := hrel
      by_cases hlt : q < n
      · obtain ⟨g, rfl, hg1, hg2⟩ := hO.form (by omega)
        have hql : q < l.length := by rw [HL.out]; exact hlt
        obtain ⟨s, hs⟩ : ∃ s, l[q]? = some s := ⟨_, List.getElem?_eq_getElem hql⟩
        have hcq : cur[q]? = some s := by rw [HC.out, if_neg (Nat.lt_irrefl _)]; exact hs
        have HQ := Lib.hid hcq
        have HS := Lib.hid hs
        have hc0 := hO.kndAt hcq
        have hO' : Ow wr w.heap.size 31 3 (some ⟨g, 0, none⟩) n c2 (svs (cur.set q (swJ p s 0))) := by
          have : cur.set q (swJ p s 0) = cur := by
            apply List.ext_getElem?; intro r
            rw [List.getElem?_set]
            by_cases e : q = r
            · subst e; rw [if_pos rfl, if_pos (List.getElem?_eq_some_iff.1 hcq).1, hcq]; rfl
            · rw [if_neg e]
          rw [this]; exact hO
        clear hs hcq hql hO
        go_wp2_with fail
        refine (named_ok g (q * 3) s.d _ hc0).mono ?_
        rintro e w3 ⟨A6, rfl, hS6, hB3, hA6⟩
        have hO3 := hO'.below hB3
        have hT6 : ∀ ad : Addr, A6 = some ad → Tg w3 ad.block 49 := fun ad e => (hA6 ad e).2
        have hB3' := nx hB hB3
        clear hO' hB hB3 hA6 hc0
        obtain ⟨M, hM'⟩ : ∃ M, (nm s.d).length = M := ⟨_, rfl⟩
        rw [hM'] at hS6 ⊢
        have hMle := nm_len s.d
        rw [hM'] at hMle
        have HMM := Lib.hid hM'
        clear hM' hg2
        go_wp2_with fail
        go_loopw [31] (fun i w4 => ∃ j : Nat, j ≤ M ∧ i = .int .i64 (j : Int) ∧ Ow w4 w.heap.size 31 3 (some ⟨g, 0, none⟩) n c2 (svs (cur.set q (swJ p s j))) ∧ Sl w4 A6 M M (ptrs g (q * 3) (nm s.d)) ∧ (∀ ad : Addr, A6 = some ad → Tg w4 ad.block 49) ∧ Hid (∀ i ∈ (nm s.d).take j, 0 ≤ fld s i ∧ fld s i < (p.length : Int)) ∧ Below w.heap.size w w4) (fun i _ => M - (intOf i).toNat)
        case atStart => exact ⟨0, Nat.zero_le _, rfl, hO3, hS6, hT6, Lib.hid (by simp), hB3'⟩
        case round =>
          clear hO3 hS6 hT6 hB3'
          obtain ⟨j, hj, rfl, hO, hS, hT, HG, hB⟩ := hrel
          by_cases hjl : j < M
          · have hji : j < (nm s.d).length := by rw [HMM.out]; exact hjl
            obtain ⟨i, hi⟩ : ∃ i, (nm s.d)[j]? = some i := ⟨_, List.getElem?_eq_getElem hji⟩
            obtain ⟨ad6, u, rfl, hu, hc6⟩ := hS.at_ hjl
            rw [ptrs_at g (q * 3) _ j i hi] at hu
            obtain rfl := (Option.some.inj hu).symm
            have hii := nm_mem s.d i (List.mem_of_getElem? hi)
            obtain ⟨hJ1, hJ2⟩ := swJ_step p s j i hi
            have hcs : (cur.set q (swJ p s j))[q]? = some (swJ p s j) := by
              rw [List.getElem?_set, if_pos rfl, if_pos (List.getElem?_eq_some_iff.1 HQ.out).1]
            have hx := hO.fldAt hcs hii
            rw [hJ2] at hx
            have HIN : Hid (i ∈ nm s.d) := Lib.hid (List.mem_of_getElem? hi)
            have hfz := World.ownsRow.frozenAt hO (q * 3 + i)
            have hst := fun v => (World.ownsRow.stored hO (q * 3 + i) v).1
            obtain ⟨x, hxe⟩ : ∃ x, fld s i = x := ⟨_, rfl⟩
            rw [hxe] at hx hJ1
            have HXE := Lib.hid hxe
            have HII := Lib.hid hi
            have HNO : Hid (¬ (0 ≤ x ∧ x < (p.length : Int)) → ¬ (IsP p ∧ ∀ s ∈ l, InR p s)) := Lib.hid (fun hne hh => hne (by rw [← HXE.out]; exact hh.2 s (List.mem_of_getElem? HS.out) i HIN.out))
            clear hu hi hji hJ2 hxe
            by_cases hneg : x < 0
            · have t1 : decide (x < 0) = true := decide_eq_true hneg
              have HNO2 := Lib.hid (HNO.out (by omega))
              clear hst hJ1 hO hS hT hcs
              go_wp2_with fail
              go_ret2
              exact .inr ⟨HNO2.out, rfl, hB⟩
            · have t1 : decide (x < 0) = false := decide_eq_false hneg
              obtain ⟨y, rfl⟩ : ∃ y : Nat, x = y := ⟨x.toNat, by omega⟩
              by_cases hge : m ≤ y
              · have t2 : decide ((m : Int) ≤ (y : Int)) = true := decide_eq_true (by omega)
                have HNO2 := Lib.hid (HNO.out (by rw [HP.out]; omega))
                clear hst hJ1 hO hS hT hcs
                go_wp2_with fail
                go_ret2
                exact .inr ⟨HNO2.out, rfl, hB⟩
              · have t2 : decide ((m : Int) ≤ (y : Int)) = false := decide_eq_false (by omega)
                have iy : (y : Int) < (m : Int) := by omega
                obtain ⟨adp, hlp, rfl, hcp⟩ := (HK.out.below hB).int (k := y) (by omega)
                obtain ⟨z, hz⟩ : ∃ z, p[y]'hlp = z := ⟨_, rfl⟩
                have hz2 : p.getD ((y : Int)).toNat 0 = z := by
                  rw [Int.toNat_natCast, List.getD_eq_getElem?_getD, List.getElem?_eq_getElem hlp, hz]; rfl
                rw [hz] at hcp
                rw [hz2] at hJ1
                have hO2 := hst (.int .i64 z)
                rw [svs_set _ q _ hcs i hii, List.set_set, ← hJ1] at hO2
                have hO2' : Ow (wr.setCell ⟨g, q * 3 + i, none⟩ (.int .i64 z)) w.heap.size 31 3 (some ⟨g, 0, none⟩) n c2 (svs (cur.set q (swJ p s (j + 1)))) := hO2
                have hS2 := hS.far (a := ⟨g, q * 3 + i, none⟩) (fun ad e => (hT ad e).ne31 hO.tg) (.int .i64 z)
                have hT2 : ∀ ad : Addr, some ad6 = some ad → Tg (wr.setCell ⟨g, q * 3 + i, none⟩ (.int .i64 z)) ad.block 49 := fun ad e => (hT ad e).set _ _
                have hB2 := hB.setCell (p := ⟨g, q * 3 + i, none⟩) hg1 (.int .i64 z)
                have HG2 : Hid (∀ i ∈ (nm s.d).take (j + 1), 0 ≤ fld s i ∧ fld s i < (p.length : Int)) := Lib.hid (fun i' hi' => by
                  rw [List.take_add_one, HII.out, Option.toList_some] at hi'
                  rcases List.mem_append.1 hi' with hi' | hi'
                  · exact HG.out i' hi'
                  · simp at hi'; subst hi'; rw [HXE.out, HP.out]; omega)
                have HH := Lib.hid hO2'
                have HS2 := Lib.hid hS2
                clear hst hJ1 hcs hO2 hO2' hS2 hO hS hT hz hz2
                go_wp2_with fail
                go_roundw
                case rel => exact ⟨j + 1, by omega, by go_num, HH.out, HS2.out, hT2, HG2, hB2⟩
                case measure => simp [intOf]; omega
          · obtain rfl : j = M := by omega
            have hJA := swJ_all p s j (by rw [HMM.out]; exact Nat.le_refl _)
            rw [hJA] at hO
            have HR : Hid (∀ i ∈ nm s.d, 0 ≤ fld s i ∧ fld s i < (p.length : Int)) := Lib.hid (by
              have := HG.out; rwa [List.take_of_length_le (by rw [HMM.out]; exact Nat.le_refl _)] at this)
            have HC2 : Hid (∀ r, (cur.set q (swF p s))[r]? = if r < q + 1 then (l[r]?).map (swF p) else l[r]?) := Lib.hid (fun r => by
              rw [List.getElem?_set]
              by_cases e : q = r
              · subst e
                rw [if_pos rfl, if_pos (List.getElem?_eq_some_iff.1 HQ.out).1, if_pos (Nat.lt_succ_self _), HS.out]; rfl
              · rw [if_neg e, HC.out]
                by_cases e2 : r < q
                · rw [if_pos e2, if_pos (by omega)]
                · rw [if_neg e2, if_neg (by omega)])
            have HI2 : Hid (∀ r s, r < q + 1 → l[r]? = some s → InR p s) := Lib.hid (fun r t hr ht => by
              by_cases e : r = q
              · subst e
                rw [HS.out] at ht; injection ht with ht; subst ht
                exact HR.out
              · exact HI.out r t (by omega) ht)
            clear hJA hS hT
            go_wp2_with fail
            go_roundw
            case rel => exact ⟨q + 1, cur.set q (swF p s), by omega, by go_num, hO, HC2, HI2, hB⟩
            case measure => simp [intOf]; omega
      · obtain rfl : q = n := by omega
        have hE : cur = l.map (swF p) := by
          apply List.ext_getElem?; intro r
          rw [HC.out, List.getElem?_map]
          by_cases e : r < q
          · rw [if_pos e]
          · rw [if_neg e, List.getElem?_eq_none (by rw [HL.out]; omega)]; rfl
        rw [hE] at hO
        have HA : Hid (∀ s ∈ l, InR p s) := Lib.hid (fun s hs => by
          obtain ⟨r, hr⟩ := List.getElem?_of_mem hs
          exact HI.out r s (by have := (List.getElem?_eq_some_iff.1 hr).1; rw [HL.out] at this; exact this) hr)
        clear hE
        go_wp2_with fail
        go_ret2
        exact .inl ⟨⟨HPP.out, HA.out⟩, _, _, rfl, hO, hB⟩
end Go.Proofs.Ytejoiamdhjhjhaa
