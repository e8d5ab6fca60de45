/- The walk of slices.DeleteFunc at numbers, over any function value, and of resolve.Except. -/
import Derived.Test.YtieeinppoiihpaaDoorRIndex
namespace Go.Proofs.YtieeinppoiihpaaDoor
open Go.RowKit

def keepL (p : Int → Bool) (l : List Int) : List Int := l.filter fun x => !p x
def DPost (base : Nat) (w : World) (r : List Int) (e : Ending) (w' : World) : Prop :=
  ∃ A' c', e = .returned (.slice A' r.length c') ∧ Sl w' A' r.length c' (iv r) ∧ Below base w w'
theorem keep_take {p : Int → Bool} {l : List Int} {j : Nat} {y : Int} (h : l[j]? = some y) : keepL p (l.take (j + 1)) = keepL p (l.take j) ++ (if p y then [] else [y]) := by
  unfold keepL
  rw [List.take_add_one, h, Option.toList_some, List.filter_append]
  congr 1
  cases e : p y <;> simp [e]
theorem keep_all {p : Int → Bool} {l : List Int} (h : ∀ u ∈ l, p u = false) : keepL p l = l := by
  unfold keepL
  exact List.filter_eq_self.2 (fun u hu => by simp [h u hu])
theorem set_cells_before {b : Nat} : ∀ (vs : List Value) (o q : Nat) (w : World), q < o → (w.setCells b o vs).cell? ⟨b, q, none⟩ = w.cell? ⟨b, q, none⟩
  | [], _, _, _, _ => rfl
  | v :: r, o, q, w, h => by
    show (((w.setCell ⟨b, o, none⟩ v).setCells b (o + 1) r).cell? ⟨b, q, none⟩) = _
    rw [set_cells_before r (o + 1) q _ (by omega)]
    apply World.cell?_setCell_other; intro e; injection e with e1 e2; omega
set_option maxRecDepth 100000 in
set_option maxHeartbeats 4000000 in
theorem delete_ok (f : Nat) (cap : Array Value) (p : Int → Bool) (A : Option Addr) (n c : Nat) (l : List Int) (base : Nat) (w : World) (h : Ow w base 3 1 A n c (iv l)) (hn : n ≤ 1000000)
    (hcf : ∀ (args : Array Value) (w : World), (callFunc f args).run Tryd.prog w = .ok (.enter f args) w) (hf : Hid (∀ W, Below base w W → ∀ x ∈ l, Calls Tryd.prog f (#[.int .i64 x] ++ cap) W fun e w' => e = .returned (.bool (p x)) ∧ W = w')) :
    Calls Tryd.prog 77 #[.slice A n c, .func (.func f) #[] cap] w (DPost base w (keepL p l)) := by
  have HL : Hid (l.length = n) := Lib.hid (by have := h.sl.len; rwa [iv_length] at this)
  have hcap := h.sl.cap
  have HI := Lib.hid (idxf_ok f cap p A n c l w h.sl hcf (Lib.hid (hf.out w (Below.refl _ _))))
  go_enter Tryd.func77, Tryd.ntmps77
  go_wp2_with fail
  refine HI.out.mono ?_; rintro e w' ⟨z, rfl, hz, rfl⟩
  rcases hz with ⟨rfl, hall⟩ | ⟨k, y, rfl, hky, hpy, hbefore⟩
  · have HA : Hid (keepL p l = l) := Lib.hid (keep_all hall)
    clear hall
    go_wp2_with fail
    go_ret
    exact ⟨A, c, by rw [HA.out, HL.out]; rfl, by rw [HA.out, HL.out]; exact h.sl, Below.refl _ _⟩
  · have hkn : k < n := by have := (List.getElem?_eq_some_iff.1 hky).1; rw [HL.out] at this; exact this
    obtain ⟨g, rfl, hg1, hg2⟩ := h.form (by omega)
    have HS : Hid (keepL p (l.take (k + 1)) = l.take k) := Lib.hid (by
      rw [keep_take hky, hpy, if_pos rfl, List.append_nil]
      exact keep_all hbefore)
    have HSL : Hid ((l.take k).length = k) := Lib.hid (by rw [List.length_take, HL.out]; omega)
    have tk : ((k : Int) == -1) = false := by rw [beq_eq_false_iff_ne]; omega
    clear hbefore hpy hky
    go_wp2_with fail
    go_loopw [5, 6] (fun iv' jv wr => ∃ (i j : Nat) (ls : List Int), i < j ∧ j ≤ n ∧ iv' = .int .i64 (i : Int) ∧ jv = .int .i64 (j : Int) ∧ Hid (ls.take i = keepL p (l.take j)) ∧ Hid (∀ q, j ≤ q → ls[q]? = l[q]?) ∧ Ow wr base 3 1 (some ⟨g, 0, none⟩) n c (iv ls) ∧ Below base w wr) (fun _ j _ => n - (intOf j).toNat)
    case atStart => exact ⟨k, k + 1, l, by omega, by omega, rfl, by go_num, Lib.hid (HS.out.symm), Lib.hid (fun _ _ => rfl), h, Below.refl _ _⟩
    case round =>
      obtain ⟨i, j, ls, hij, hj, rfl, rfl, HT, HR, hO, hB⟩ := hrel
      have HLS : Hid (ls.length = n) := Lib.hid (by have := hO.sl.len; rwa [iv_length] at this)
      by_cases hlt : j < n
      · obtain ⟨au, hlu, e1, hcu⟩ := hO.sl.int hlt
        injection e1 with e1; subst e1
        obtain ⟨y, hy⟩ : ∃ y, ls[j]'hlu = y := ⟨_, rfl⟩
        have hy2 : l[j]? = some y := by rw [← HR.out j (Nat.le_refl _), List.getElem?_eq_getElem hlu, hy]
        rw [hy, add_mk, Nat.zero_add] at hcu
        have HC := Lib.hid (hf.out wr hB y (List.mem_of_getElem? hy2))
        have HKT := Lib.hid (keep_take (p := p) hy2)
        obtain ⟨b, hb⟩ : ∃ b, p y = b := ⟨_, rfl⟩
        rw [hb] at HC HKT
        have i1 : (j : Int) < (n : Int) := by omega
        clear hy hy2 hb
        go_wp2_with fail
        refine HC.out.mono ?_; rintro e w' ⟨rfl, rfl⟩
        cases b
        · obtain ⟨old, co⟩ : ∃ old, wr.cell? ⟨g, i, none⟩ = some old := ⟨_, hO.cell (List.getElem?_eq_getElem (by rw [iv_length, HLS.out]; omega : i < (iv ls).length))⟩
          have cf := hO.frz i
          have hO2 := hO.set_ i (.int .i64 y)
          have hB2 := hB.setCell (p := ⟨g, i, none⟩) hg1 (.int .i64 y)
          have e2 : (iv ls).set i (.int .i64 y) = iv (ls.set i y) := by unfold iv; rw [List.map_set]
          rw [e2] at hO2
          have HT2 : Hid ((ls.set i y).take (i + 1) = keepL p (l.take (j + 1))) := Lib.hid (by
            rw [HKT.out, if_neg (by simp), ← HT.out, List.take_add_one, List.take_set_of_le (Nat.le_refl _), List.getElem?_set_self (by rw [HLS.out]; omega)]; rfl)
          have HR2 : Hid (∀ q, j + 1 ≤ q → (ls.set i y)[q]? = l[q]?) := Lib.hid (fun q hq => by rw [List.getElem?_set_ne (by omega), HR.out q (by omega)])
          have i2 : (i : Int) < (n : Int) := by omega
          clear e2 hO hB HT HR HKT
          go_wp2_with fail
          go_roundw
          case rel => exact ⟨i + 1, j + 1, ls.set i y, by omega, by omega, by go_num, by go_num, HT2, HR2, hO2, hB2⟩
          case measure => simp [intOf]; omega
        · have HT2 : Hid (ls.take i = keepL p (l.take (j + 1))) := Lib.hid (by rw [HKT.out, if_pos rfl, List.append_nil]; exact HT.out)
          have HR2 : Hid (∀ q, j + 1 ≤ q → ls[q]? = l[q]?) := Lib.hid (fun q hq => HR.out q (by omega))
          clear HT HR HKT
          go_wp2_with fail
          go_roundw
          case rel => exact ⟨i, j + 1, ls, by omega, by omega, by go_num, by go_num, HT2, HR2, hO, hB⟩
          case measure => simp [intOf]; omega
      · obtain rfl : j = n := by omega
        have HF : Hid (ls.take i = keepL p l) := Lib.hid (by rw [HT.out, ← HL.out, List.take_length])
        have HFL : Hid ((keepL p l).length = i) := Lib.hid (by rw [← HF.out, List.length_take, HLS.out]; omega)
        have hclr := Lib.run_clear_slice (P := Tryd.prog) wr 23 3 0 (.int .i64 0) Tryd.underlying23 (fun w => by first | exact Tryd.zeroValue3 w | (simp; done)) rfl rfl g i (j - i) (c - i) (by omega) (fun q hq => by rw [hO.cell (List.getElem?_eq_getElem (by rw [iv_length, HLS.out]; omega : i + q < (iv ls).length))]; rfl) (fun q _ => hO.frz _)
        have hB2 := hB.trans (set_cells hg1 (List.replicate (j - i) (.int .i64 0)) i wr)
        have hSl : Sl (wr.setCells g i (List.replicate (j - i) (.int .i64 0))) (some ⟨g, 0, none⟩) i c (iv (keepL p l)) := by
          refine ⟨by rw [iv_length, HFL.out], by omega, hO.sl.top, .inr ⟨_, rfl, fun q v hq => ?_⟩⟩
          have hqi : q < i := by have := (List.getElem?_eq_some_iff.1 hq).1; rw [iv_length, HFL.out] at this; exact this
          rw [add_mk, Nat.zero_add, set_cells_before _ _ _ _ hqi]
          refine hO.cell ?_
          rw [← hq, ← HF.out]
          unfold iv
          rw [List.getElem?_map, List.getElem?_map, List.getElem?_take_of_lt hqi]
        have i3 : (i : Int) ≤ (j : Int) := by omega
        have i5 : (i : Int) ≤ (c : Int) := by omega
        have i6 : ¬ c = i := by omega
        go_wp2_with fail
        go_ret
        exact ⟨some ⟨g, 0, none⟩, c, by rw [HFL.out]; rfl, by rw [HFL.out]; exact hSl, hB2⟩
set_option maxRecDepth 100000 in
theorem except_ok (A : Option Addr) (n c : Nat) (l : List Int) (B : Option Addr) (m d : Nat) (zs : List Int) (w : World) (h : Sl w A n c (iv l)) (hz : Sl w B m d (iv zs)) (hn : n ≤ 1000000) (hl : Hid (∀ x ∈ l, 0 ≤ x ∧ x ≤ 1000000)) :
    Calls Tryd.prog 45 #[.slice A n c, .slice B m d] w (DPost w.heap.size w (keepL (fun x => decide (x % 2 = 0 ∧ x / 2 ∈ zs)) l)) := by
  obtain ⟨p, hp⟩ : ∃ p : Int → Bool, (fun x => decide (x % 2 = 0 ∧ x / 2 ∈ zs)) = p := ⟨_, rfl⟩
  have hc1 : (w.alloc (.cells #[.slice B m d] 23)).cell? ⟨w.heap.size, 0, none⟩ = some (.slice B m d) := by simp
  have hz1 := hz.alloc (.cells #[.slice B m d] 23)
  have h1 := h.alloc (.cells #[.slice B m d] 23)
  have hB0 : Below w.heap.size w (w.alloc (.cells #[.slice B m d] 23)) := (Below.refl _ w).alloc (Nat.le_refl _) _
  obtain ⟨w0, hw0⟩ : ∃ w0, w.alloc (.cells #[.slice B m d] 23) = w0 := ⟨_, rfl⟩
  obtain ⟨g, hg⟩ : ∃ g, w.heap.size = g := ⟨_, rfl⟩
  have hgw : w0.heap.size = g + 1 := by rw [← hw0, ← hg]; simp
  have HC := Lib.hid (fun W hW => clone_ok A n c l W hW (by omega))
  have HF : Hid (∀ W, Below w0.heap.size w0 W → ∀ x ∈ l, Calls Tryd.prog 79 (#[.int .i64 x] ++ #[.pointer (some ⟨g, 0, none⟩)]) W fun e w' => e = .returned (.bool (p x)) ∧ W = w') := Lib.hid (fun W hW x hx => by
    rw [← hp]
    exact exc_ok g x B m d zs W (by rw [← hw0] at hW; rw [← hg]; exact (hW.cell (p := ⟨w.heap.size, 0, none⟩) (by simp)).trans hc1) (by rw [← hw0] at hW; exact hz1.below hW) (hl.out x hx))
  have hd := fun (A' : Option Addr) (c' : Nat) (W : World) (hO : Ow W w0.heap.size 3 1 A' n c' (iv l)) (hB : Below w0.heap.size w0 W) => delete_ok 79 #[.pointer (some ⟨g, 0, none⟩)] p A' n c' l w0.heap.size W hO hn cf79 (Lib.hid (fun W' hW' => HF.out W' (hB.trans hW')))
  have HD := Lib.hid hd
  rw [hp]
  obtain ⟨r, hr⟩ : ∃ r, keepL p l = r := ⟨_, rfl⟩
  rw [hr] at HD ⊢
  have HP := Lib.hid hp
  have hg0 : g < w0.heap.size := by omega
  have hmf : ∀ (fn : Fn) (first cap : Array Value) (w : World), (Instr.makeFunc fn first cap).run Tryd.prog w = .ok (.func fn first cap) w := fun _ _ _ _ => rfl
  clear hd hp h hz
  rw [hw0] at h1
  rw [hw0, hg] at hB0
  have hgs : g ≤ w0.heap.size := by omega
  clear hz1 hc1
  go_enter Tryd.func45, Tryd.ntmps45
  go_wp2_with fail
  refine (HC.out _ h1).mono ?_; rintro e w2 ⟨A', c', rfl, hO, hB2⟩
  have H3 := Lib.hid (HD.out A' c' w2 hO hB2)
  clear hO
  go_wp2_with fail
  refine H3.out.mono ?_; rintro e w3 ⟨A3, c3, rfl, hS3, hB3⟩
  go_wp2_with fail
  go_ret
  exact ⟨A3, c3, rfl, hS3, by rw [hg]; exact hB0.trans ((hB2.trans hB3).mono hgs)⟩
end Go.Proofs.YtieeinppoiihpaaDoor
