/- The walks of the reference's (chapter Resolve) bad, noLeaf, resolution, Resolution. -/
import Derived.Test.YtieeinppoiihpaaDoorR7Mem
import Derived.Test.YtieeinppoiihpaaDoorRef2
namespace Go.Proofs.YtieeinppoiihpaaDoor
open Go.RowKit

theorem bad_bool (A : Option Addr) (n c : Nat) (t : List TN) (x : Int) (w : World) (h : Ts w A n c t) (hn : n ≤ 140) (hu : Hid (∀ s ∈ t, s.un.length ≤ 1000)) (b : Bool) (hb : b = false ↔ HasT t x) :
    Calls Tryd.prog 81 #[.slice A n c, .int .i64 x] w fun e w' => e = .returned (.bool b) ∧ Below w.heap.size w w' := by
  have HC := Lib.hid (check7_ok A n c t w h hn hu)
  have HL := Lib.hid h.len
  by_cases hc : ChkT t
  rotate_left
  · rw [chk_no hc] at HC
    have HD : Hid (b = true) := Lib.hid (by cases b; exact absurd (hb.1 rfl).1 hc; rfl)
    clear hb hc h hu
    go_enter Tryd.func81, Tryd.ntmps81
    go_wp2_with (go_at_call 38; refine HC.out.mono ?_; rintro e w1 ⟨rfl, hB⟩)
    go_ret
    exact ⟨by rw [HD.out]; rfl, hB⟩
  rw [chk_yes hc] at HC
  by_cases h0 : x < 0
  · have t1 : decide (x < 0) = true := decide_eq_true h0
    have HD : Hid (b = true) := Lib.hid (by cases b; exact absurd (hb.1 rfl).2.1 (by omega); rfl)
    clear hb hc h hu h0
    go_enter Tryd.func81, Tryd.ntmps81
    go_wp2_with (go_at_call 38; refine HC.out.mono ?_; rintro e w1 ⟨rfl, hB⟩)
    go_ret
    exact ⟨by rw [HD.out]; rfl, hB⟩
  have t1 : decide (x < 0) = false := decide_eq_false h0
  have HD : Hid (decide ((n : Int) ≤ x) = b) := Lib.hid (by
    by_cases h9 : (n : Int) ≤ x
    · rw [decide_eq_true h9]; cases b; exact absurd (hb.1 rfl).2.2 (by rw [HL.out]; omega); rfl
    · rw [decide_eq_false h9]; exact (hb.2 ⟨hc, by omega, by rw [HL.out]; omega⟩).symm)
  have t2 := HD.out
  clear hb hc h hu h0
  go_enter Tryd.func81, Tryd.ntmps81
  go_wp2_with (go_at_call 38; refine HC.out.mono ?_; rintro e w1 ⟨rfl, hB⟩)
  all_goals go_ret
  all_goals first | exact ⟨by rfl, hB⟩ | exact ⟨by rw [← t2]; rfl, hB⟩
theorem noleaf_bool (A : Option Addr) (n c : Nat) (t : List TN) (i : Int) (w : World) (h : Ts w A n c t) (hn : n ≤ 140) (hu : Hid (∀ s ∈ t, s.un.length ≤ 1000)) (b : Bool) (hb : b = false ↔ HasL t i) :
    Calls Tryd.prog 83 #[.slice A n c, .int .i64 i] w fun e w' => e = .returned (.bool b) ∧ Below w.heap.size w w' := by
  have hl := h.len
  by_cases h0 : i < 0
  · have t1 : decide (i < 0) = true := decide_eq_true h0
    have HD : Hid (b = true) := Lib.hid (by cases b; exact absurd (hb.1 rfl).2.1 (by omega); rfl)
    clear hb h hu h0
    go_enter Tryd.func83, Tryd.ntmps83
    go_wp2_with fail
    go_ret
    exact ⟨by rw [HD.out]; rfl, Below.refl _ _⟩
  have t1 : decide (i < 0) = false := decide_eq_false h0
  by_cases h9 : 300 < i
  · have t2 : decide (300 < i) = true := decide_eq_true h9
    have HD : Hid (b = true) := Lib.hid (by cases b; exact absurd (hb.1 rfl).2.2 (by rw [hl]; omega); rfl)
    clear hb h hu h0 h9
    go_enter Tryd.func83, Tryd.ntmps83
    go_wp2_with fail
    go_ret
    exact ⟨by rw [HD.out]; rfl, Below.refl _ _⟩
  have t2 : decide (300 < i) = false := decide_eq_false h9
  have H := Lib.hid (bad_bool A n c t (2 * i) w h hn hu b (by rw [hb]; exact ⟨HasL.has, fun q => ⟨q.1, by omega, q.2.2⟩⟩))
  clear hb h hu hl
  go_enter Tryd.func83, Tryd.ntmps83
  go_wp2_with (go_at_call 81; refine H.out.mono ?_; rintro e w1 ⟨rfl, hB⟩)
  go_ret
  exact ⟨rfl, hB⟩
def RPost (w : World) (l : List Int) (e : Ending) (w' : World) : Prop := ∃ B d, e = .returned (.slice B l.length d) ∧ Ow w' w.heap.size 3 1 B l.length d (iv l) ∧ Below w.heap.size w w'
set_option maxRecDepth 100000 in
set_option maxHeartbeats 8000000 in
theorem res82_self (A : Option Addr) (n c : Nat) (t : List TN) (w : World) (h : Ts w A n c t) (hC : Hid (ChkT t)) (hu : Hid (∀ s ∈ t, s.un.length ≤ 1000))
    (x : Nat) (hx : x < n) (hk : kd t x ≠ 0) :
    Calls Tryd.prog 82 #[.slice A n c, .int .i64 (x : Int)] w (RPost w (selfL t x)) := by
  obtain ⟨ad, s, U, m, q, rfl, hs, hat0⟩ := h.at_ hx
  have c0 := hat0.c0
  have hat1 := hat0.keep (w' := w.alloc (.cells #[.int .i64 (x : Int)] 3)) (fun p hp => World.cell?_alloc_lt w _ p hp)
  have c5 := hat1.c5
  rw [kd_at hs] at hk
  have t1 : (s.k != 0) = true := by rw [bne_iff_ne]; exact hk
  have i1 : (x : Int) < (n : Int) := by omega
  have HSL : Hid (selfL t x = (x : Int) :: s.un.map (2 * ·)) := Lib.hid (by unfold selfL; rw [und_at hs])
  have HUL : Hid (s.un.length = m) := Lib.hid (by have := hat0.un.len; rwa [iv_length] at this)
  have HM : Hid (m ≤ 1000) := Lib.hid (by have h1 := hu.out s (List.mem_of_getElem? hs); rw [HUL.out] at h1; exact h1)
  have HI : Hid (∀ i ∈ s.un, 0 ≤ i ∧ i < 256) := Lib.hid (fun i hi => pres_lt hC.out.1 (chk_un hC.out hs i hi))
  have hO0 : Ow (w.alloc (.cells #[.int .i64 (x : Int)] 3)) w.heap.size 3 1 (some ⟨w.heap.size, 0, none⟩) 1 1 [.int .i64 (x : Int)] := World.ownsRow_lit w #[.int .i64 (x : Int)] 1 (Nat.le_refl _) (by unfold maxLen; omega) rfl
  have hB00 : Below w.heap.size w (w.alloc (.cells #[.int .i64 (x : Int)] 3)) := (Below.refl _ w).alloc (Nat.le_refl _) _
  clear hk
  go_enter Tryd.func82, Tryd.ntmps82
  go_wp2_with fail
  go_loopw [5, 26] (fun v i wr => ∃ (k : Nat) (A' : Option Addr) (c' : Nat), k ≤ m ∧ i = .int .i64 (k : Int) ∧ v = .slice A' (1 + k) c' ∧ Ow wr w.heap.size 3 1 A' (1 + k) c' (iv ((x : Int) :: (s.un.take k).map (2 * ·))) ∧ Below w.heap.size w wr) (fun _ i _ => m - (intOf i).toNat)
  case atStart => exact ⟨0, _, 1, Nat.zero_le _, rfl, rfl, hO0, hB00⟩
  case round =>
    obtain ⟨k, A', c', hk, rfl, rfl, hO, hB⟩ := hrel
    by_cases hlt : k < m
    · obtain ⟨au, hlu, rfl, hcu⟩ := ((hat0.below hB).un).int hlt
      obtain ⟨i, hi'⟩ : ∃ i, s.un[k]'hlu = i := ⟨_, rfl⟩
      have hi2 : s.un[k]? = some i := by rw [List.getElem?_eq_getElem hlu, hi']
      rw [hi'] at hcu
      have hib := HI.out i (List.mem_of_getElem? hi2)
      have HTK : Hid ((x : Int) :: (s.un.take (k + 1)).map (2 * ·) = ((x : Int) :: (s.un.take k).map (2 * ·)) ++ [2 * i]) := Lib.hid (by
        rw [List.take_add_one, hi2, Option.toList_some, List.map_append]; rfl)
      have hm1 := HM.out
      clear hi' hi2
      go_wp2_with (at_builtin; refine wpList_app (o := ⟨some 34, _, _, _, _, _⟩) E23 rfl rfl rfl (hO.alloc _) rfl (lies_new wr _ 3) rfl (by simp [Value.oneCell']) (by unfold maxLen; omega) (by omega) (by have := hB.size; simp; omega) ?_; intro A4 c4 w4 hO4 hG4 hB4; have hb4 : Below w.heap.size w w4 := (hB.alloc hB.size _).trans hB4; clear hG4 hB4 hO hB)
      go_roundw
      case rel => exact ⟨k + 1, A4, c4, by omega, by go_num, by rw [show 1 + (k + 1) = 1 + k + 1 by omega], by rw [show 1 + (k + 1) = 1 + k + 1 by omega, HTK.out, iv_snoc]; exact hO4, hb4⟩
      case measure => simp [intOf]; omega
    · obtain rfl : k = m := by omega
      have HT : Hid (selfL t x = (x : Int) :: (s.un.take k).map (2 * ·)) := Lib.hid (by rw [HSL.out, ← HUL.out, List.take_length])
      have HLN : Hid ((selfL t x).length = 1 + k) := Lib.hid (by rw [HSL.out, List.length_cons, List.length_map, HUL.out]; omega)
      go_wp2_with fail
      go_ret
      exact ⟨A', c', by rw [HLN.out]; rfl, by rw [HLN.out, HT.out]; exact hO, hB⟩
set_option maxRecDepth 100000 in
set_option maxHeartbeats 8000000 in
theorem res82_ok (A : Option Addr) (n c : Nat) (t : List TN) (w0 : World) (h : Ts w0 A n c t) (hC : Hid (ChkT t)) (hu : Hid (∀ s ∈ t, s.un.length ≤ 1000)) :
    ∀ (k : Nat) (x : Nat) (w : World), lev x = k → Ins x (lvs t) → Below w0.heap.size w0 w → k ≤ 8 →
    Calls Tryd.prog 82 #[.slice A n c, .int .i64 (x : Int)] w (RPost w (resL t k x)) := by
  have HLEN : Hid (n + 1 = 2 * lvs t) := Lib.hid (by have := hC.out.2.1; rwa [h.len] at this)
  intro k
  induction k with
  | zero =>
    intro x w hl hI hB _
    have hxn : x < n := by have := hI.2; have := HLEN.out; omega
    by_cases hk : kd t x = 0
    rotate_left
    · rw [res_self hk]
      exact res82_self A n c t w (h.below hB) hC hu x hxn hk
    rw [show resL t 0 x = [] by unfold resL; rw [if_pos hk]]
    obtain ⟨ad, s, U, m, q, rfl, hs, hat0⟩ := h.at_ hxn
    have c0 := (hat0.below hB).c0
    rw [kd_at hs] at hk
    have t1 : (s.k != 0) = false := by rw [bne_eq_false_iff_eq]; exact hk
    have i1 : (x : Int) < (n : Int) := by omega
    have he := (lev_odd hI.lt).1 hl
    have t2 : (((x : Int) % 2) == 0) = true := by rw [beq_iff_eq]; omega
    clear hk hs hat0 he hl hI
    go_enter Tryd.func82, Tryd.ntmps82
    go_wp2_with fail
    go_ret
    exact ⟨none, 0, rfl, Ow.nil _ _ _ _, Below.refl _ _⟩
  | succ k ih =>
    intro x w hl hI hB hk8
    have hxn : x < n := by have := hI.2; have := HLEN.out; omega
    by_cases hk : kd t x = 0
    rotate_left
    · rw [res_self hk]
      exact res82_self A n c t w (h.below hB) hC hu x hxn hk
    rw [res_kids hk]
    have ho' : x % 2 = 1 := by
      have := lev_odd hI.lt
      rcases Nat.mod_two_eq_zero_or_one x with e | e
      · have := this.2 e; omega
      · exact e
    obtain ⟨k1, k2, k3, k4⟩ := kids hI ho'
    have hl1 := res_len hu.out k (leftN x)
    have hl2 := res_len hu.out k (rightN x)
    have hp : 2 ^ k ≤ 2 ^ 8 := Nat.pow_le_pow_right (by omega) (by omega)
    have IH1 := Lib.hid (fun W hB => ih (leftN x) W (by omega) k1 hB (by omega))
    have IH2 := Lib.hid (fun W hB => ih (rightN x) W (by omega) k3 hB (by omega))
    obtain ⟨ad, s, U, m, q, rfl, hs, hat0⟩ := h.at_ hxn
    have c0 := (hat0.below hB).c0
    rw [kd_at hs] at hk
    have t1 : (s.k != 0) = false := by rw [bne_eq_false_iff_eq]; exact hk
    have t2 : (((x : Int) % 2) == 0) = false := by rw [beq_eq_false_iff_ne]; omega
    have i1 : (x : Int) < (n : Int) := by omega
    have HL := Lib.hid (fun W => rleft_ok x W hI.lt ho')
    have HR := Lib.hid (fun W => rright_ok x W hI.lt ho')
    obtain ⟨xl, hxl⟩ : ∃ y, leftN x = y := ⟨_, rfl⟩
    obtain ⟨xr, hxr⟩ : ∃ y, rightN x = y := ⟨_, rfl⟩
    rw [hxl] at IH1 HL hl1 ⊢
    rw [hxr] at IH2 HR hl2 ⊢
    obtain ⟨p, hpe⟩ : ∃ p, resL t k xl = p := ⟨_, rfl⟩
    rw [hpe] at IH1 hl1 ⊢
    obtain ⟨r, hre⟩ : ∃ r, resL t k xr = r := ⟨_, rfl⟩
    rw [hre] at IH2 hl2 ⊢
    have hpl : p.length ≤ 1000000 := by omega
    have hrl : r.length ≤ 1000000 := by omega
    have HF : Hid ((p ++ r).length = p.length + r.length ∧ iv (p ++ r) = iv p ++ iv r) := Lib.hid ⟨List.length_append, by simp [iv]⟩
    obtain ⟨f, hf⟩ : ∃ f, p ++ r = f := ⟨_, rfl⟩
    rw [hf] at HF ⊢
    clear hk hs hat0 ho' hl hI k1 k2 k3 k4 hl1 hl2 hp hxl hxr ih hpe hre hf
    go_enter Tryd.func82, Tryd.ntmps82
    go_wp2_with (first
      | (go_at_call 31; refine (HL.out _).mono ?_; rintro e w1 ⟨rfl, rfl⟩)
      | (go_at_call 32; refine (HR.out _).mono ?_; rintro e w2 ⟨rfl, rfl⟩))
    refine (IH1.out w hB).mono ?_; rintro e w3 ⟨B3, d3, rfl, hO3, hB5⟩
    have hB6 := hB.trans (hB5.mono hB.size)
    go_wp2_with fail
    refine (IH2.out w3 hB6).mono ?_; rintro e w4 ⟨B4, d4, rfl, hO4, hB7⟩
    have hO34 := hO3.below hB7
    have hB8 := nx hB5 hB7
    go_wp2_with (at_builtin; refine wpList_app E23 rfl rfl rfl hO34 rfl hO4.sl.lies (by rw [iv_length, Nat.mul_one]) (iv_one r) (by unfold maxLen; omega) (by omega) hB8.size ?_; intro A5 c5 w5 hO5 hG5 hB9)
    go_ret
    exact ⟨A5, c5, by rw [HF.out.1]; rfl, by rw [HF.out.1, HF.out.2]; exact hO5, hB8.trans hB9⟩
theorem res8_no (A : Option Addr) (n c : Nat) (t : List TN) (x : Int) (w : World) (h : Ts w A n c t) (hn : n ≤ 140) (hu : Hid (∀ s ∈ t, s.un.length ≤ 1000)) (hno : ¬ HasT t x) :
    Calls Tryd.prog 46 #[.slice A n c, .int .i64 x] w fun e w' => e = .returned (.tuple #[.slice none 0 0, .int .i64 1]) ∧ Below w.heap.size w w' := by
  have H := Lib.hid (bad_bool A n c t x w h hn hu true (by simp [hno]))
  clear h hu hno
  go_enter Tryd.func46, Tryd.ntmps46
  go_wp2_with (go_at_call 81; refine H.out.mono ?_; rintro e w' ⟨rfl, hB⟩)
  go_ret2
  exact ⟨rfl, hB⟩
theorem res8_yes (A : Option Addr) (n c : Nat) (t : List TN) (x : Nat) (w : World) (h : Ts w A n c t) (hn : n ≤ 140) (hu : Hid (∀ s ∈ t, s.un.length ≤ 1000)) (hyes : HasT t (x : Int)) :
    Calls Tryd.prog 46 #[.slice A n c, .int .i64 (x : Int)] w fun e w' => ∃ B d, e = .returned (.tuple #[.slice B (resN t x).length d, .int .i64 0]) ∧ Ow w' w.heap.size 3 1 B (resN t x).length d (iv (resN t x)) ∧ Below w.heap.size w w' := by
  have H := Lib.hid (bad_bool A n c t x w h hn hu false (by simp [hyes]))
  have hi := hyes.ins
  rw [Int.toNat_natCast] at hi
  have h8 := lev_le hi.lt
  have HW := Lib.hid (fun W hB => res82_ok A n c t w h (Lib.hid hyes.1) hu (lev x) x W rfl hi hB h8)
  unfold resN
  obtain ⟨r, hr⟩ : ∃ r, resL t (lev x) x = r := ⟨_, rfl⟩
  rw [hr] at HW ⊢
  clear h hu hyes hi h8 hr
  go_enter Tryd.func46, Tryd.ntmps46
  go_wp2_with (first
    | (go_at_call 81; refine H.out.mono ?_; rintro e w' ⟨rfl, hB⟩)
    | (go_at_call 82; refine (HW.out _ hB).mono ?_; rintro e w2 ⟨B, d, rfl, hO, hB2⟩))
  go_ret2
  exact ⟨B, d, rfl, hO.mono hB.size, hB.trans (hB2.mono hB.size)⟩
end Go.Proofs.YtieeinppoiihpaaDoor
