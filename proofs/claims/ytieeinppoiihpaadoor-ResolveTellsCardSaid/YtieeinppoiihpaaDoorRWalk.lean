/- The walks of resolve's node and walk. -/
import Derived.Test.YtieeinppoiihpaaDoorRCheck
namespace Go.Proofs.YtieeinppoiihpaaDoor
open Go.RowKit

theorem iv_snoc (l : List Int) (x : Int) : iv (l ++ [x]) = iv l ++ [.int .i64 x] := by simp [iv]
/-- a node's own and its unmerged leaves -/
def selfL (t : List TN) (x : Nat) : List Int := (x : Int) :: (und t x).map (2 * ·)
/-- a node's resolution -/
def resL (t : List TN) : Nat → Nat → List Int
  | 0, x => if kd t x = 0 then [] else selfL t x
  | k + 1, x => if kd t x = 0 then resL t k (leftN x) ++ resL t k (rightN x) else selfL t x
theorem res_self {t : List TN} {k x : Nat} (h : kd t x ≠ 0) : resL t k x = selfL t x := by cases k <;> simp [resL, h]
theorem und_len {t : List TN} {m : Nat} (h : ∀ s ∈ t, s.un.length ≤ m) (x : Nat) : (und t x).length ≤ m := by
  unfold und
  cases e : t[x]? with
  | none => simp
  | some s => exact h s (List.mem_of_getElem? e)
theorem res_kids {t : List TN} {k x : Nat} (h : kd t x = 0) : resL t (k + 1) x = resL t k (leftN x) ++ resL t k (rightN x) := by rw [resL, if_pos h]
theorem res_len {t : List TN} {m : Nat} (h : ∀ s ∈ t, s.un.length ≤ m) : ∀ (k x : Nat), (resL t k x).length ≤ (m + 1) * 2 ^ k
  | 0, x => by have := und_len h x; unfold resL; split <;> simp [selfL]; omega
  | k + 1, x => by
    have h1 := res_len h k (leftN x); have h2 := res_len h k (rightN x)
    have h3 := und_len h x
    have e : (m + 1) * 2 ^ (k + 1) = (m + 1) * 2 ^ k + (m + 1) * 2 ^ k := by rw [Nat.pow_succ, ← Nat.mul_assoc]; omega
    have h4 : m + 1 ≤ (m + 1) * 2 ^ k := Nat.le_mul_of_pos_right _ (Nat.two_pow_pos k)
    unfold resL
    split
    · rw [List.length_append]; omega
    · simp [selfL]; omega
theorem chk_un {t : List TN} (h : ChkT t) {x : Nat} {s : TN} (hs : t[x]? = some s) : ∀ i ∈ s.un, Pres t i := by
  intro i hi
  rcases h.2.2.2 x s hs with ⟨_, q⟩ | ⟨_, _, q⟩ | ⟨_, _, q⟩
  · rw [q.2.2.2.2.2] at hi; simp at hi
  · rw [q.2] at hi; simp at hi
  · exact (q.2.2.2.2.2 i hi).2.2.1
theorem node_ok (A : Option Addr) (n c : Nat) (t : List TN) (x : Int) (w : World) (h : Ts w A n c t) (hn : n ≤ 1000) (hwf : Hid (∀ s ∈ t, TWf s)) (hu : Hid (∀ s ∈ t, s.un.length ≤ 1000)) (hT : Tab w) :
    Calls Tryd.prog 71 #[.slice A n c, .int .i64 x] w fun e w' => e = .returned (.bool (decide (0 ≤ x ∧ x < (n : Int)) && chkE t == 0)) ∧ Below w.heap.size w w' := by
  have HC := Lib.hid (fun W hW hT => check_ok A n c t W hW hn hwf hu hT)
  obtain ⟨v, hv⟩ : ∃ v, chkE t = v := ⟨_, rfl⟩
  rw [hv] at HC ⊢
  clear hwf hu
  by_cases h0 : 0 ≤ x
  rotate_left
  · have HD : Hid (decide (0 ≤ x ∧ x < (n : Int)) = false) := Lib.hid (decide_eq_false (by omega))
    have t1 : decide (0 ≤ x) = false := decide_eq_false h0
    clear h0 h hT
    go_enter Tryd.func71, Tryd.ntmps71
    go_wp2_with fail
    go_ret
    exact ⟨by rw [HD.out]; rfl, Below.refl _ _⟩
  have t1 : decide (0 ≤ x) = true := decide_eq_true h0
  by_cases h1 : x < (n : Int)
  rotate_left
  · have HD : Hid (decide (0 ≤ x ∧ x < (n : Int)) = false) := Lib.hid (decide_eq_false (by omega))
    have t2 : decide (x < (n : Int)) = false := decide_eq_false h1
    clear h0 h1 h hT
    go_enter Tryd.func71, Tryd.ntmps71
    go_wp2_with fail
    go_ret
    exact ⟨by rw [HD.out]; rfl, Below.refl _ _⟩
  have t2 : decide (x < (n : Int)) = true := decide_eq_true h1
  have HD : Hid (decide (0 ≤ x ∧ x < (n : Int)) = true) := Lib.hid (decide_eq_true ⟨h0, h1⟩)
  clear h0 h1
  go_enter Tryd.func71, Tryd.ntmps71
  go_wp2_with (go_at_call 89; refine (HC.out _ h hT).mono ?_; rintro e w' ⟨rfl, hB⟩)
  go_ret
  exact ⟨by rw [HD.out]; rfl, hB⟩
def WPost (w0 : World) (l : List Int) (e : Ending) (w' : World) : Prop := ∃ B' d', e = .returned (.slice B' l.length d') ∧ Ow w' w0.heap.size 3 1 B' l.length d' (iv l) ∧ Below w0.heap.size w0 w'
theorem kids {x N : Nat} (h : Ins x N) (h1 : x % 2 = 1) : Ins (leftN x) N ∧ lev (leftN x) + 1 = lev x ∧ Ins (rightN x) N ∧ lev (rightN x) + 1 = lev x := by
  have := trees_all (p := fun x N => x % 2 == 0 || (decide (leftN x + 1 < 2 * N) && lev (leftN x) + 1 == lev x && decide (rightN x + 1 < 2 * N) && lev (rightN x) + 1 == lev x)) (by kernel_rfl) h
  simp [h1, Bool.and_eq_true, and_assoc] at this
  exact ⟨⟨h.1, this.1⟩, this.2.1, ⟨h.1, this.2.2.1⟩, this.2.2.2⟩
theorem lev_odd {x : Nat} (h : x < 511) : lev x = 0 ↔ x % 2 = 0 := by
  have := nodes_all (p := fun x => (lev x == 0) == (x % 2 == 0)) (by kernel_rfl) h
  simp at this
  constructor <;> intro h <;> simp_all
theorem chk_und {t : List TN} (h : ChkT t) (x : Nat) : ∀ i ∈ und t x, Pres t i := by
  intro i hi
  unfold und at hi
  cases e : t[x]? with
  | none => rw [e] at hi; simp at hi
  | some s => rw [e] at hi; exact chk_un h e i hi
theorem pres_lt {t : List TN} (h : lvs t ∈ sizes) {i : Int} (hi : Pres t i) : 0 ≤ i ∧ i < 256 := by
  have := size_le h; have := hi.1; have := hi.2.1; omega
set_option maxRecDepth 100000 in
set_option maxHeartbeats 8000000 in
theorem walk_self (A : Option Addr) (n c : Nat) (t : List TN) (w0 : World) (h : Ts w0 A n c t) (hC : Hid (ChkT t)) (hu : Hid (∀ s ∈ t, s.un.length ≤ 1000))
    (x : Nat) (o : List Int) (B : Option Addr) (d : Nat) (w : World) (hx : x < n) (hB : Below w0.heap.size w0 w) (hO : Ow w w0.heap.size 3 1 B o.length d (iv o)) (ho : o.length + 1001 ≤ 1000000) (hk : kd t x ≠ 0) :
    Calls Tryd.prog 72 #[.slice A n c, .int .i64 (x : Int), .slice B o.length d] w (WPost w0 (o ++ selfL t x)) := by
  obtain ⟨ad, s, U, m, q, rfl, hs, hat0⟩ := h.at_ hx
  have c0 := (hat0.below hB).c0
  rw [kd_at hs] at hk
  have t1 : (s.k != 0) = true := by rw [bne_iff_ne]; exact hk
  have i1 : (x : Int) < (n : Int) := by omega
  have HSL : Hid (selfL t x = (x : Int) :: s.un.map (2 * ·)) := Lib.hid (by unfold selfL; rw [und_at hs])
  have HUL : Hid (s.un.length = m) := Lib.hid (by have := hat0.un.len; rwa [iv_length] at this)
  have HM : Hid (m ≤ 1000) := Lib.hid (by have h1 := hu.out s (List.mem_of_getElem? hs); rw [HUL.out] at h1; exact h1)
  have HI : Hid (∀ i ∈ s.un, 0 ≤ i ∧ i < 256) := Lib.hid (fun i hi => pres_lt hC.out.1 (chk_un hC.out hs i hi))
  clear hk
  go_enter Tryd.func72, Tryd.ntmps72
  go_wp2_with (at_builtin; refine wpList_app (o := ⟨some 22, _, _, _, _, _⟩) E23 rfl rfl rfl (hO.alloc _) rfl (lies_new w _ 3) rfl (by simp [Value.oneCell']) (by unfold maxLen; omega) (by omega) (by have := hB.size; simp; omega) ?_; intro A3 c3 w3 hO3 hG3 hB3; have hb : Below w0.heap.size w0 w3 := (hB.alloc hB.size _).trans hB3; have c5 := (hat0.below hb).c5; have hun := (hat0.below hb).un; clear hG3 hB3 hO hB c0)
  go_loopw [2, 29] (fun v i wr => ∃ (k : Nat) (A' : Option Addr) (c' : Nat), k ≤ m ∧ i = .int .i64 (k : Int) ∧ v = .slice A' (o.length + 1 + k) c' ∧ Ow wr w0.heap.size 3 1 A' (o.length + 1 + k) c' (iv (o ++ (x : Int) :: (s.un.take k).map (2 * ·))) ∧ Below w0.heap.size w0 wr) (fun _ i _ => m - (intOf i).toNat)
  case atStart => exact ⟨0, A3, c3, Nat.zero_le _, rfl, rfl, by rw [List.take_zero, List.map_nil, iv_snoc]; exact hO3, hb⟩
  case round =>
    clear hO3 hb hun c5
    obtain ⟨k, A', c', hk, rfl, rfl, hO, hB⟩ := hrel
    by_cases hlt : k < m
    · obtain ⟨au, hlu, rfl, hcu⟩ := ((hat0.below hB).un).int hlt
      obtain ⟨i, hi'⟩ : ∃ i, s.un[k]'hlu = i := ⟨_, rfl⟩
      have hi2 : s.un[k]? = some i := by rw [List.getElem?_eq_getElem hlu, hi']
      rw [hi'] at hcu
      have hib := HI.out i (List.mem_of_getElem? hi2)
      have HTK : Hid (o ++ (x : Int) :: (s.un.take (k + 1)).map (2 * ·) = (o ++ (x : Int) :: (s.un.take k).map (2 * ·)) ++ [2 * i]) := Lib.hid (by
        rw [List.take_add_one, hi2, Option.toList_some, List.map_append, List.append_assoc]; rfl)
      have hm1 := HM.out
      clear hi' hi2
      go_wp2_with (at_builtin; refine wpList_app (o := ⟨some 37, _, _, _, _, _⟩) E23 rfl rfl rfl (hO.alloc _) rfl (lies_new wr _ 3) rfl (by simp [Value.oneCell']) (by unfold maxLen; omega) (by omega) (by have := hB.size; simp; omega) ?_; intro A4 c4 w4 hO4 hG4 hB4; have hb4 : Below w0.heap.size w0 w4 := (hB.alloc hB.size _).trans hB4; clear hG4 hB4 hO hB)
      go_roundw
      case rel => exact ⟨k + 1, A4, c4, by omega, by go_num, by rw [show o.length + 1 + (k + 1) = o.length + 1 + k + 1 by omega], by rw [show o.length + 1 + (k + 1) = o.length + 1 + k + 1 by omega, HTK.out, iv_snoc]; exact hO4, hb4⟩
      case measure => simp [intOf]; omega
    · obtain rfl : k = m := by omega
      have HT : Hid (o ++ selfL t x = o ++ (x : Int) :: (s.un.take k).map (2 * ·)) := Lib.hid (by rw [HSL.out, ← HUL.out, List.take_length])
      have HLN : Hid ((o ++ selfL t x).length = o.length + 1 + k) := Lib.hid (by rw [HSL.out, List.length_append, List.length_cons, List.length_map, HUL.out]; omega)
      go_wp2_with fail
      go_ret
      exact ⟨A', c', by rw [HLN.out]; rfl, by rw [HLN.out, HT.out]; exact hO, hB⟩
set_option maxRecDepth 100000 in
set_option maxHeartbeats 8000000 in
theorem walk_ok (A : Option Addr) (n c : Nat) (t : List TN) (w0 : World) (h : Ts w0 A n c t) (hn : n ≤ 511) (hC : Hid (ChkT t)) (hu : Hid (∀ s ∈ t, s.un.length ≤ 1000)) (hT : Tab w0) :
    ∀ (k : Nat) (x : Nat) (o : List Int) (B : Option Addr) (d : Nat) (w : World), lev x = k → Ins x (lvs t) → Below w0.heap.size w0 w → Ow w w0.heap.size 3 1 B o.length d (iv o) → o.length + 1001 * 2 ^ k ≤ 1000000 →
    Calls Tryd.prog 72 #[.slice A n c, .int .i64 (x : Int), .slice B o.length d] w (WPost w0 (o ++ resL t k x)) := by
  have HLEN : Hid (n + 1 = 2 * lvs t) := Lib.hid (by have := hC.out.2.1; rwa [h.len] at this)
  intro k
  induction k with
  | zero =>
    intro x o B d w hl hI hB hO ho
    have hxn : x < n := by have := hI.2; have := HLEN.out; omega
    by_cases hk : kd t x = 0
    rotate_left
    · rw [res_self hk]
      exact walk_self A n c t w0 h hC hu x o B d w hxn hB hO (by omega) hk
    rw [show resL t 0 x = [] by unfold resL; rw [if_pos hk], List.append_nil]
    obtain ⟨ad, s, U, m, q, rfl, hs, hat0⟩ := h.at_ hxn
    have c0 := (hat0.below hB).c0
    rw [kd_at hs] at hk
    have t1 : (s.k != 0) = false := by rw [bne_eq_false_iff_eq]; exact hk
    have i1 : (x : Int) < (n : Int) := by omega
    have he := (lev_odd hI.lt).1 hl
    have HL := Lib.hid (fun W => left_no (x : Int) W (.inr (.inr (by omega))))
    clear hk hs hat0 he hl hI
    go_enter Tryd.func72, Tryd.ntmps72
    go_wp2_with (go_at_call 18; refine (HL.out _).mono ?_; rintro e w1 ⟨rfl, hB1⟩; have hB2 := hB.trans (hB1.mono hB.size))
    go_ret
    exact ⟨B, d, rfl, hO.below hB1, hB2⟩
  | succ k ih =>
    intro x o B d w hl hI hB hO ho
    have hxn : x < n := by have := hI.2; have := HLEN.out; omega
    by_cases hk : kd t x = 0
    rotate_left
    · rw [res_self hk]
      have : 1 ≤ 2 ^ (k + 1) := Nat.one_le_two_pow
      exact walk_self A n c t w0 h hC hu x o B d w hxn hB hO (by omega) hk
    rw [res_kids hk]
    have ho' : x % 2 = 1 := by
      have := lev_odd hI.lt
      rcases Nat.mod_two_eq_zero_or_one x with e | e
      · have := this.2 e; omega
      · exact e
    obtain ⟨k1, k2, k3, k4⟩ := kids hI ho'
    have hl1 := res_len hu.out k (leftN x)
    have hp : 2 ^ (k + 1) = 2 ^ k + 2 ^ k := by rw [Nat.pow_succ]; omega
    have IH1 := Lib.hid (fun W hB hO => ih (leftN x) o B d W (by omega) k1 hB hO (by omega))
    have IH2 := Lib.hid (fun A' d' W hB hO => ih (rightN x) (o ++ resL t k (leftN x)) A' d' W (by omega) k3 hB hO (by rw [List.length_append]; omega))
    obtain ⟨ad, s, U, m, q, rfl, hs, hat0⟩ := h.at_ hxn
    have c0 := (hat0.below hB).c0
    rw [kd_at hs] at hk
    have t1 : (s.k != 0) = false := by rw [bne_eq_false_iff_eq]; exact hk
    have i1 : (x : Int) < (n : Int) := by omega
    have HL := Lib.hid (fun W hW => left_ok x W hI.lt ho' hW)
    have HR := Lib.hid (fun W hW => right_ok x W hI.lt ho' hW)
    rw [← List.append_assoc]
    obtain ⟨xl, hxl⟩ : ∃ y, leftN x = y := ⟨_, rfl⟩
    obtain ⟨xr, hxr⟩ : ∃ y, rightN x = y := ⟨_, rfl⟩
    rw [hxl] at IH1 IH2 HL ⊢
    rw [hxr] at IH2 HR ⊢
    obtain ⟨p, hpe⟩ : ∃ p, o ++ resL t k xl = p := ⟨_, rfl⟩
    rw [hpe] at IH1 IH2 ⊢
    obtain ⟨r, hre⟩ : ∃ r, p ++ resL t k xr = r := ⟨_, rfl⟩
    rw [hre] at IH2 ⊢
    clear hk hs hat0 ho' hl hI k1 k2 k3 k4 hl1 hp ho hxl hxr ih hpe hre
    go_enter Tryd.func72, Tryd.ntmps72
    go_wp2_with (first
      | (go_at_call 18; refine (HL.out _ (hT.below' hB)).mono ?_; rintro e w1 ⟨rfl, hB1⟩; have hB2 := hB.trans (hB1.mono hB.size); have hO1 := hO.below hB1)
      | (go_at_call 19; refine (HR.out _ (hT.below' hB2)).mono ?_; rintro e w2 ⟨rfl, hB3⟩; have hB4 := hB2.trans (hB3.mono hB2.size); have hO2 := hO1.below hB3))
    refine (IH1.out _ hB4 hO2).mono ?_; rintro e w3 ⟨B3, d3, rfl, hO3, hB5⟩
    go_wp2_with fail
    refine (IH2.out _ _ _ hB5 hO3).mono ?_; rintro e w4 ⟨B4, d4, rfl, hO4, hB6⟩
    go_wp2_with fail
    go_ret
    exact ⟨B4, d4, rfl, hO4, hB6⟩
end Go.Proofs.YtieeinppoiihpaaDoor
