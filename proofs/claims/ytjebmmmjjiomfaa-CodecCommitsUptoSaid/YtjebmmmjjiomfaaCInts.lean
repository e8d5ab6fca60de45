/- The walks of a writer's ints and vector. -/
import Derived.Test.YtjebmmmjjiomfaaCBase
namespace Go.Proofs.Ytjebmmmjjiomfaa
open Go.RowKit

theorem allB_append {α : Type} (f : α → Option (List UInt8)) : ∀ (a b : List α), allB f (a ++ b) = seqB (allB f a) (allB f b)
  | [], b => by cases h : allB f b <;> simp [allB, seqB, h]
  | x :: a, b => by rw [List.cons_append, allB, allB_append f a b, allB, seqB_assoc]
theorem allB_one {α : Type} (f : α → Option (List UInt8)) (x : α) : allB f [x] = f x := by cases h : f x <;> simp [allB, seqB, h]
theorem allB_take {α : Type} (f : α → Option (List UInt8)) {l : List α} {k : Nat} {x : α} (h : l[k]? = some x) : allB f (l.take (k + 1)) = seqB (allB f (l.take k)) (f x) := by
  rw [List.take_add_one, h, allB_append]
  simp [allB_one]
theorem allB_none {α : Type} (f : α → Option (List UInt8)) {l : List α} {k : Nat} {x : α} (h : l[k]? = some x) (hx : f x = none) : allB f l = none := by
  rw [← List.take_append_drop (k + 1) l, allB_append, allB_take f h, hx, seqB_none', seqB_none]
theorem nsI_all : ∀ l, nsI l = allB nI l
  | [] => rfl
  | n :: l => by rw [nsI_cons, nsI_all l, allB]
/-- how a writer's call ends -/
def WEnd (p : Nat) (l : List UInt8) (o : Option (List UInt8)) (w : World) (e : Ending) (w' : World) : Prop :=
  (∃ b, o = some b ∧ e = .returned (.tuple #[]) ∧ WR w' p (l ++ b) ∧ KW p w w') ∨ (o = none ∧ e = .panicked [badE] ∧ KW p w w')
set_option maxRecDepth 100000 in
set_option maxHeartbeats 1000000 in
theorem wints_ok (p : Nat) (l : List UInt8) (A : Option Addr) (n c : Nat) (ns : List Int) (w : World) (h : WR w p l) (hs : SlK w p A n c (iv ns)) (hb : Hid (l.length + 4 * n ≤ 70368744177664)) :
    Calls Try.prog 105 #[.pointer (some ⟨p, 0, none⟩), .slice A n c] w (WEnd p l (nsI ns) w) := by
  have htop := hs.1.top; have hcap := hs.1.cap; unfold maxLen at htop
  have Hl := Lib.hid (show ns.length = n by have := hs.1.len; rwa [iv_length] at this)
  have hpw := h.bit
  rw [nsI_all]
  go_enter Try.func105, Try.ntmps105
  go_wp2_with fail
  go_loopw [10] (fun i wr => ∃ (k : Nat) (b : List UInt8), k ≤ n ∧ i = .int .i64 (k : Int) ∧ allB nI (ns.take k) = some b ∧ WR wr p (l ++ b) ∧ KW p w wr) (fun i _ => n - (intOf i).toNat)
  case atStart => exact ⟨0, [], Nat.zero_le _, rfl, rfl, by rw [List.append_nil]; exact h, KW.refl _ _⟩
  case round =>
    obtain ⟨k, b, hk, rfl, hall, hW, hK⟩ := hrel
    have HA := Lib.hid hall
    by_cases hlt : k < n
    · obtain ⟨ad, x, rfl, hx, hcx⟩ := (hs.kw hK).1.at_ hlt
      rw [iv_get] at hx
      obtain ⟨z, hz⟩ : ∃ z, ns[k]? = some z := ⟨_, List.getElem?_eq_getElem (by rw [Hl.out]; exact hlt)⟩
      rw [hz] at hx
      simp at hx
      subst hx
      have HZ := Lib.hid hz
      have hbl : b.length ≤ 4 * k := by
        have := nsI_len (l := ns.take k) (by rw [nsI_all]; exact hall)
        simp at this; omega
      have hlen : (l ++ b).length + 4 ≤ 70368744177664 := by have := hb.out; simp; omega
      have hpr : p < wr.heap.size := hW.bit
      obtain ⟨L, hL⟩ : ∃ L, l ++ b = L := ⟨_, rfl⟩
      have HL := Lib.hid hL
      rw [hL] at hW hlen
      clear hL
      obtain ⟨A1, c1, hh, hO⟩ := hW
      have cw : wr.cell? ⟨p, 0, none⟩ = some (.slice A1 L.length c1) := cell_of hh 0
      clear hz hall
      by_cases hn : 0 ≤ z ∧ z ≤ 1073741823
      · obtain ⟨m, rfl⟩ : ∃ m : Nat, z = m := ⟨z.toNat, by omega⟩
        have HI := Lib.hid (int_ok m wr (by omega))
        have hle := (intL_le m).2
        have HN : Hid (nI (m : Int) = some (intL m)) := Lib.hid (by rw [nI_yes hn]; simp)
        obtain ⟨y, hy⟩ : ∃ y, intL m = y := ⟨_, rfl⟩
        rw [hy] at HI HN hle
        have hny : y.length ≤ 4 := hle
        clear hn hy
        go_wp2_with (first
          | (go_at_call 16; refine HI.out.mono ?_; rintro e w1 ⟨A2, c2, rfl, hO2, hB2⟩; have hh1 := (hB2.block p hpr).trans hh; have cw1 := cell_of hh1 0; have hO1 := hO.below hB2)
          | (go_at_call 85; refine (must_ok _).mono ?_; rintro e w1 ⟨rfl, rfl⟩)
          | (at_builtin; refine wpList_app (o := ⟨some 28, _, _, _, _, _⟩) E23 rfl rfl rfl hO1 rfl hO2.lies (by rw [bv_length, Nat.mul_one]) (bv_one _) (by unfold maxLen; omega) (by omega) (by have := hB2.size; omega) ?_; intro A3 c3 w3 hO3 hG3 hB3; have hh3 := (hB3.block p (Nat.lt_succ_self p)).trans hh1; have cw3 := cell_of hh3 0; have zw3 := frz_of hh3 0))
        go_roundw
        case rel =>
          have hT := (allB_take nI HZ.out).trans (by rw [HA.out, HN.out, seqB_yes])
          have hR := WR.app hh1 hO1 hO3 hG3 hB3
          refine ⟨k + 1, b ++ y, by omega, by go_num, hT, ?_, hK.trans ((KW.of hB2 (by omega)).trans hR.2)⟩
          rw [← List.append_assoc, HL.out]
          exact hR.1
        case measure => simp [intOf]; omega
      · have HI := Lib.hid (int_no z wr (by omega))
        have HN := Lib.hid (nI_no hn)
        clear hn
        go_wp2_with (first | (go_at_call 16; refine HI.out.mono ?_; rintro e w1 ⟨rfl, rfl⟩) | (go_at_call 85; refine (must_no _).mono ?_; rintro e w1 ⟨rfl, rfl⟩))
        simp [bodyPost]
        exact .inr ⟨allB_none nI HZ.out HN.out, rfl, hK⟩
    · obtain rfl : k = n := by omega
      have HT := Lib.hid (show ns.take k = ns by rw [← Hl.out, List.take_length])
      go_wp2_with fail
      go_end0
      exact .inl ⟨b, by rw [HT.out] at HA; exact HA.out, rfl, hW, hK⟩

/-- a writer's vector of what another writer does -/
theorem wvec_ok (p : Nat) (l : List UInt8) (k : Nat) (cap : Array Value) (o : Option (List UInt8)) (w : World) (h : WR w p l) (hb : Hid (l.length + 1073741828 ≤ 70368744177664))
    (hcf : ∀ (args : Array Value) (w : World), (callFunc k args).run Try.prog w = .ok (.enter k args) w)
    (H : Hid (Calls Try.prog k (#[.pointer (some ⟨w.heap.size, 0, none⟩)] ++ cap) (w.alloc (.cells #[.slice none 0 0] 126)) (WEnd w.heap.size [] o (w.alloc (.cells #[.slice none 0 0] 126))))) :
    Calls Try.prog 97 #[.pointer (some ⟨p, 0, none⟩), .func (.func k) #[] cap] w (WEnd p l (o.bind vecB) w) := by
  have hpr := h.bit
  go_enter Try.func97, Try.ntmps97
  go_wp2_with fail
  refine Calls.mono H.out ?_
  rintro e w1 (⟨b, rfl, rfl, hW1, hK1⟩ | ⟨rfl, rfl, hK1⟩)
  · have hK := (((KW.refl p w).alloc (by omega) (.cells #[.slice none 0 0] 126)).inner hK1 (by omega) (Nat.le_refl _))
    have hB1 : Below w.heap.size w w1 := ((Below.refl _ w).alloc (Nat.le_refl _) _).trans hK1.below
    have hWp := h.below hB1
    rw [List.nil_append] at hW1
    have hpr1 : p < w1.heap.size := hWp.bit
    obtain ⟨A1, c1, hh, hO⟩ := hWp
    have cw : w1.cell? ⟨p, 0, none⟩ = some (.slice A1 l.length c1) := cell_of hh 0
    obtain ⟨A2, c2, cq, zq, hO2, hqr⟩ := hW1.cell
    have HK := Lib.hid hK
    clear hB1 hK1 hW1 h zq
    by_cases hlt : b.length < 1073741824
    · have HI := Lib.hid (bytes_ok A2 b.length c2 b w1 hO2.sl hlt)
      have HN : Hid (vecB b = some (bytesL b)) := Lib.hid (if_pos hlt)
      have hle := vecB_len HN.out
      obtain ⟨y, hy⟩ : ∃ y, bytesL b = y := ⟨_, rfl⟩
      rw [hy] at HI HN hle
      clear hy hlt
      go_wp2_with (first
        | (go_at_call 29; refine HI.out.mono ?_; rintro e w2 ⟨A3, c3, rfl, hO3, hB2⟩; have hh1 := (hB2.block p hpr1).trans hh; have cw1 := cell_of hh1 0; have hO1 := hO.below hB2)
        | (go_at_call 85; refine (must_ok _).mono ?_; rintro e w1 ⟨rfl, rfl⟩)
        | (at_builtin; refine wpList_app (o := ⟨some 29, _, _, _, _, _⟩) E23 rfl rfl rfl hO1 rfl hO3.lies (by rw [bv_length, Nat.mul_one]) (bv_one _) (by have := hb.out; unfold maxLen; omega) (by have := hb.out; omega) (by have := hB2.size; omega) ?_; intro A4 c4 w3 hO4 hG4 hB4; have hh3 := (hB4.block p (Nat.lt_succ_self p)).trans hh1; have cw3 := cell_of hh3 0; have zw3 := frz_of hh3 0))
      go_end0
      have hR := WR.app hh1 hO1 hO4 hG4 hB4
      exact .inl ⟨y, HN.out, rfl, hR.1, HK.out.trans ((KW.of hB2 (by omega)).trans hR.2)⟩
    · have HI := Lib.hid (bytes_no A2 b.length c2 w1 (by show _ ≤ _; omega) (by have h1 := hO2.sl.cap; have h2 := hO2.sl.top; omega))
      have HN : Hid (vecB b = none) := Lib.hid (if_neg hlt)
      clear hlt
      go_wp2_with (first | (go_at_call 29; refine HI.out.mono ?_; rintro e w1 ⟨rfl, rfl⟩) | (go_at_call 85; refine (must_no _).mono ?_; rintro e w1 ⟨rfl, rfl⟩))
      simp [bodyPost]
      exact .inr ⟨HN.out, rfl, HK.out⟩
  · have hK := (((KW.refl p w).alloc (by omega) (.cells #[.slice none 0 0] 126)).inner hK1 (by omega) (Nat.le_refl _))
    simp [bodyPost]
    exact .inr ⟨rfl, rfl, hK⟩
end Go.Proofs.Ytjebmmmjjiomfaa
