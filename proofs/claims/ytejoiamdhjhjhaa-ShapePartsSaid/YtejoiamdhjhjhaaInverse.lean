/- The walks of shape.inverse and shape.Inverse. -/
import Derived.Test.YtejoiamdhjhjhaaSame
namespace Go.Proofs.Ytejoiamdhjhjhaa
open Go.RowKit

def rgi (n : Nat) (f : Nat → Int) : List Int := (List.range n).map f
theorem rgi_len (n : Nat) (f : Nat → Int) : (rgi n f).length = n := by simp [rgi]
theorem rgi_get (n : Nat) (f : Nat → Int) (j : Nat) (hj : j < n) : (rgi n f)[j]? = some (f j) := by simp [rgi, hj]
theorem rgi_congr (n : Nat) (f g : Nat → Int) (h : ∀ j, j < n → f j = g j) : rgi n f = rgi n g := by
  unfold rgi; exact List.map_congr_left fun j hj => h j (List.mem_range.1 hj)
theorem rgi_set (n : Nat) (f g : Nat → Int) (i : Nat) (v : Int) (hg : ∀ j, j < n → g j = if j = i then v else f j) : (rgi n f).set i v = rgi n g := by
  apply List.ext_getElem?
  intro j
  rw [List.getElem?_set]
  by_cases hj : j < n
  · rw [rgi_get n g j hj, rgi_get n f j hj, hg j hj]
    by_cases e : i = j
    · subst e; rw [if_pos rfl, if_pos (by rw [rgi_len]; exact hj), if_pos rfl]
    · rw [if_neg e, if_neg (fun h => e h.symm)]
  · rw [List.getElem?_eq_none (by rw [rgi_len]; omega), List.getElem?_eq_none (by rw [rgi_len]; omega)]
    split
    · rw [if_neg (by rw [rgi_len]; omega)]
    · rfl
theorem iv_rgi (n : Nat) (f : Nat → Int) (j : Nat) (hj : j < n) : (iv (rgi n f))[j]? = some (.int .i64 (f j)) := by rw [iv_get, rgi_get n f j hj]; rfl
theorem iv_set (l : List Int) (i : Nat) (z : Int) : (iv l).set i (.int .i64 z) = iv (l.set i z) := by simp [iv, List.map_set]
theorem iv_zero (n : Nat) : iv (rgi n (fun _ => 0)) = List.replicate n (.int .i64 0) := by
  apply List.ext_getElem?
  intro j
  by_cases hj : j < n
  · rw [iv_rgi n _ j hj]; simp [hj]
  · rw [List.getElem?_eq_none (by simp [iv, rgi]; omega), List.getElem?_eq_none (by simp; omega)]
/-- a list that puts each place's number once -/
def IsP (p : List Int) : Prop := (∀ x ∈ p, 0 ≤ x ∧ x < (p.length : Int)) ∧ p.Nodup
def invK (p : List Int) (k : Nat) (j : Nat) : Int := if (j : Int) ∈ p.take k then (idx p j : Int) else -1
/-- the list that puts back -/
def invL (p : List Int) : List Int := rgi p.length (invK p p.length)
theorem idx_first (p : List Int) (k : Nat) (x : Int) (h : p[k]? = some x) (hn : x ∉ p.take k) : idx p x = k := by
  induction p generalizing k with
  | nil => simp at h
  | cons y r ih =>
    match k with
    | 0 => simp at h; simp [idx, h]
    | k + 1 =>
      rw [List.take_succ_cons] at hn
      have h1 : ¬ x = y := fun e => hn (by simp [e])
      have h2 : x ∉ r.take k := fun e => hn (by simp [e])
      unfold idx
      rw [if_neg (fun e => h1 e.symm), ih k (by simpa using h) h2]
theorem invK_step (p : List Int) (k i : Nat) (h : p[k]? = some (i : Int)) (hn : (i : Int) ∉ p.take k) (j : Nat) : invK p (k + 1) j = if j = i then (k : Int) else invK p k j := by
  unfold invK
  rw [List.take_add_one, h, Option.toList_some]
  by_cases e : j = i
  · subst e
    rw [if_pos (by simp), if_pos rfl, idx_first p k _ h hn]
  · rw [if_neg e]
    have e' : ¬ (j : Int) = (i : Int) := fun q => e (by omega)
    by_cases m : (j : Int) ∈ p.take k
    · rw [if_pos m, if_pos (by simp [m])]
    · rw [if_neg m, if_neg (by simp [m, e'])]
def InvPost (w : World) (p : List Int) (n : Nat) (e : Ending) (w' : World) : Prop :=
  (IsP p ∧ ∃ A' c', e = .returned (.tuple #[.slice A' n c', .bool true]) ∧ Ow w' w.heap.size 3 1 A' n c' (iv (invL p)) ∧ Below w.heap.size w w') ∨
  (¬ IsP p ∧ e = .returned (.tuple #[.slice none 0 0, .bool false]) ∧ Below w.heap.size w w')
set_option maxRecDepth 100000 in
set_option maxHeartbeats 2000000 in
theorem inv_ok (A : Option Addr) (n c : Nat) (p : List Int) (w : World) (h : Sl w A n c (iv p)) (hn : n ≤ 1000) :
    Calls Try.prog 30 #[.slice A n c] w fun e w' => InvPost w p n e w' := by
  have HL : Hid (p.length = n) := by have := h.len; rwa [iv_length] at this
  go_enter Try.func30, Try.ntmps30
  go_wp2_with (at_make; refine wpList_mk (o := ⟨some 10, _, _, _, _, _⟩) E25 rfl rfl rfl n rfl rfl rfl rfl w.heap.size (Nat.le_refl _) (by omega) (by unfold maxLen; omega) ?_; intro w1 hO1 hG1 hB1)
  rw [← iv_zero] at hO1
  have hsz1 := hO1.bit
  clear hG1
  go_loopw [13] (fun i wr => ∃ k : Nat, k ≤ n ∧ i = .int .i64 (k : Int) ∧ Ow wr w.heap.size 3 1 (some ⟨w.heap.size, 0, none⟩) n n (iv (rgi n (fun j => if j < k then -1 else 0))) ∧ Below w.heap.size w wr) (fun i _ => n - (intOf i).toNat)
  case atStart => exact ⟨0, Nat.zero_le _, rfl, by rw [rgi_congr n _ (fun _ => 0) (fun j _ => if_neg (Nat.not_lt_zero _))]; exact hO1, hB1⟩
  case round =>
    clear hO1 hB1
    obtain ⟨k, hk, rfl, hO, hB⟩ := hrel
    by_cases hlt : k < n
    · have hc := hO.cell (iv_rgi n (fun j => if j < k then -1 else 0) k hlt)
      have hf := hO.frz k
      have hO2 := hO.set_ k (.int .i64 (-1))
      rw [iv_set, rgi_set n _ (fun j => if j < k + 1 then -1 else 0) k (-1) (fun j _ => by
        by_cases e : j = k
        · rw [if_pos (by omega), if_pos e]
        · rw [if_neg e]
          by_cases q : j < k
          · rw [if_pos q, if_pos (by omega)]
          · rw [if_neg q, if_neg (by omega)])] at hO2
      have hB2 := hB.setCell (p := ⟨w.heap.size, k, none⟩) (Nat.le_refl _) (.int .i64 (-1))
      clear hO hB
      go_wp2_with fail
      go_roundw
      case rel => exact ⟨k + 1, by omega, by go_num, hO2, hB2⟩
      case measure => simp [intOf]; omega
    · obtain rfl : k = n := by omega
      rw [rgi_congr k _ (invK p 0) (fun j hj => by rw [if_pos hj]; simp [invK])] at hO
      go_wp2_with fail
      go_loopw [22] (fun i wr => ∃ q : Nat, q ≤ k ∧ i = .int .i64 (q : Int) ∧ Ow wr w.heap.size 3 1 (some ⟨w.heap.size, 0, none⟩) k k (iv (rgi k (invK p q))) ∧ Below w.heap.size w wr ∧ Hid ((∀ x ∈ p.take q, 0 ≤ x ∧ x < (k : Int)) ∧ (p.take q).Nodup)) (fun i _ => k - (intOf i).toNat)
      case atStart => exact ⟨0, Nat.zero_le _, rfl, hO, hB, by simp [Hid]⟩
      case round =>
        clear hO hB
        obtain ⟨q, hq, rfl, hO, hB, hG⟩ := hrel
        by_cases hqk : q < k
        · obtain ⟨ad, hl, rfl, hc⟩ := (h.below hB).int hqk
          obtain ⟨x, hx⟩ : ∃ x, p[q]'hl = x := ⟨_, rfl⟩
          have hxq : p[q]? = some x := by rw [List.getElem?_eq_getElem hl, hx]
          rw [hx] at hc
          have HXQ := Lib.hid hxq
          clear hx hxq
          by_cases hneg : x < 0
          · have hno : ¬ IsP p := fun hp => by have := (hp.1 x (List.mem_of_getElem? HXQ.out)).1; omega
            have t1 : decide (x < 0) = true := decide_eq_true hneg
            have HNO := Lib.hid hno
            clear hO hno
            go_wp2_with fail
            go_ret2
            exact .inr ⟨HNO.out, rfl, hB⟩
          · have t1 : decide (x < 0) = false := decide_eq_false hneg
            obtain ⟨i, rfl⟩ : ∃ i : Nat, x = i := ⟨x.toNat, by omega⟩
            by_cases hge : k ≤ i
            · have hno : ¬ IsP p := fun hp => by have := (hp.1 _ (List.mem_of_getElem? HXQ.out)).2; rw [HL.out] at this; omega
              have t2 : decide ((k : Int) ≤ (i : Int)) = true := decide_eq_true (by omega)
              have HNO := Lib.hid hno
              clear hO hno
              go_wp2_with fail
              go_ret2
              exact .inr ⟨HNO.out, rfl, hB⟩
            · have t2 : decide ((k : Int) ≤ (i : Int)) = false := decide_eq_false (by omega)
              have iik : (i : Int) < (k : Int) := by omega
              have hcc := hO.cell (iv_rgi k (invK p q) i (by omega))
              have hff := hO.frz i
              by_cases hin : (i : Int) ∈ p.take q
              · have hno : ¬ IsP p := fun hp => by
                  have hnd := hp.2
                  rw [← List.take_append_drop (q + 1) p] at hnd
                  have h1 := (List.nodup_append.1 hnd).1
                  rw [List.take_add_one, HXQ.out, Option.toList_some] at h1
                  exact (List.nodup_append.1 h1).2.2 _ hin _ (by simp) rfl
                have hv : invK p q i = (idx p i : Int) := if_pos hin
                rw [hv] at hcc
                have t3 : decide ((0 : Int) ≤ (idx p i : Int)) = true := decide_eq_true (by omega)
                have HNO := Lib.hid hno
                obtain ⟨z, hz⟩ : ∃ z, idx p i = z := ⟨_, rfl⟩
                rw [hz] at hcc t3
                clear hO hno hv hz
                go_wp2_with fail
                go_ret2
                exact .inr ⟨HNO.out, rfl, hB⟩
              · have hv : invK p q i = -1 := if_neg hin
                rw [hv] at hcc
                have t3 : decide ((0 : Int) ≤ -1) = false := by decide
                have hO2 := hO.set_ i (.int .i64 (q : Int))
                rw [iv_set, rgi_set k _ (invK p (q + 1)) i (q : Int) (fun j _ => invK_step p q i HXQ.out hin j)] at hO2
                have hB2 := hB.setCell (p := ⟨w.heap.size, i, none⟩) (Nat.le_refl _) (.int .i64 (q : Int))
                have hG2 : Hid ((∀ x ∈ p.take (q + 1), 0 ≤ x ∧ x < (k : Int)) ∧ (p.take (q + 1)).Nodup) := Lib.hid (by
                  rw [List.take_add_one, HXQ.out, Option.toList_some]
                  refine ⟨fun x hx => ?_, ?_⟩
                  · rcases List.mem_append.1 hx with hx | hx
                    · exact hG.out.1 x hx
                    · simp at hx; subst hx; exact ⟨by omega, by omega⟩
                  · rw [List.nodup_append]
                    refine ⟨hG.out.2, by simp, fun a ha b hb => ?_⟩
                    simp at hb; subst hb
                    intro e; subst e; exact hin ha)
                clear hO hB hv hG
                go_wp2_with fail
                go_roundw
                case rel => exact ⟨q + 1, by omega, by go_num, hO2, hB2, hG2⟩
                case measure => simp [intOf]; omega
        · obtain rfl : q = k := by omega
          have hT : p.take q = p := by rw [← HL.out, List.take_length]
          have hP : IsP p := by
            have := hG.out
            rw [hT] at this
            exact ⟨fun x hx => by rw [HL.out]; exact this.1 x hx, this.2⟩
          have hE : rgi q (invK p q) = invL p := by unfold invL; rw [HL.out]
          rw [hE] at hO
          have HP := Lib.hid hP
          clear hP hT hE
          go_wp2_with fail
          go_ret2
          exact .inl ⟨HP.out, _, _, rfl, hO, hB⟩
def InvPost2 (w : World) (p : List Int) (n : Nat) (e : Ending) (w' : World) : Prop :=
  (IsP p ∧ ∃ A' c', e = .returned (.tuple #[.slice A' n c', .int .i64 0]) ∧ Ow w' w.heap.size 3 1 A' n c' (iv (invL p)) ∧ Below w.heap.size w w') ∨
  (¬ IsP p ∧ e = .returned (.tuple #[.slice none 0 0, .int .i64 1]) ∧ Below w.heap.size w w')
theorem inverse_ok (A : Option Addr) (n c : Nat) (p : List Int) (w : World) (h : Sl w A n c (iv p)) (hn : n ≤ 1000) :
    Calls Try.prog 19 #[.slice A n c] w fun e w' => InvPost2 w p n e w' := by
  have H1 := Lib.hid (inv_ok A n c p w h hn)
  go_enter Try.func19, Try.ntmps19
  go_wp2_with fail
  refine H1.out.mono ?_
  rintro e w1 (⟨hp, A1, c1, rfl, hO, hB⟩ | ⟨hp, rfl, hB⟩)
  · go_wp2_with fail
    go_ret2
    exact .inl ⟨hp, _, _, rfl, hO, hB⟩
  · go_wp2_with fail
    go_ret2
    exact .inr ⟨hp, rfl, hB⟩
end Go.Proofs.Ytejoiamdhjhjhaa
