/- The walks of the reference's (chapter Ratchet) Check and Members: Check's answer is the program's. -/
import Derived.Test.YtieeinppoiihpaaDoorR7Node
namespace Go.Proofs.YtieeinppoiihpaaDoor
open Go.RowKit

set_option maxRecDepth 100000 in
theorem node7_ok (A : Option Addr) (n c : Nat) (t : List TN) (N x : Nat) (s : TN) (U : Option Addr) (m d : Nat) (w : World) (h : Ts w A n c t) (hN : N ∈ small) (hn : n + 1 = 2 * N) (hx : x < n) (hs : Sl w U m d (iv s.un)) (hm : m ≤ 1000) :
    Calls Tryd.prog 70 #[.slice A n c, .int .i64 (x : Int), tv s U m d] w fun e w' => BoolIs e (NodeT t x s) ∧ Below w.heap.size w w' := by
  have hlv : lvs t = N := by unfold lvs; rw [h.len]; omega
  by_cases hk : s.k = 0
  · have tz : (s.k == 0) = true := by rw [beq_iff_eq]; exact hk
    have HD : Hid (ZeroT s ↔ NodeT t x s) := Lib.hid ⟨fun q => .inl ⟨hk, q⟩, fun q => by
      rcases q with q | q | q
      · exact q.2
      · exact absurd hk q.1
      · exact absurd hk q.1⟩
    have HZ := Lib.hid (fun W hW => zero7_ok s U m d W hW)
    have hs1 := hs.alloc (.cells #[.int .i64 s.k, .int .i64 s.id, .int .i64 s.enc, .int .i64 s.sig, .int .i64 s.hash, .slice U m d] 50)
    unfold tv at HZ ⊢
    clear hk h
    go_enter Tryd.func70, Tryd.ntmps70
    go_wp2_with (go_at_call 87; refine (HZ.out _ hs1).mono ?_; rintro e w' ⟨⟨b, rfl, hb⟩, hB⟩)
    go_ret
    exact ⟨⟨b, rfl, hb.trans HD.out⟩, bx _ hB⟩
  have tz : (s.k == 0) = false := by rw [beq_eq_false_iff_ne]; exact hk
  by_cases he : x % 2 = 0
  · have tx : (((x : Int) % 2) == 0) = true := by rw [beq_iff_eq]; omega
    have HD : Hid (LeafT s ↔ NodeT t x s) := Lib.hid ⟨fun q => .inr (.inl ⟨hk, he, q⟩), fun q => by
      rcases q with q | q | q
      · exact absurd q.1 hk
      · exact q.2.2
      · have := q.2.1; omega⟩
    have HZ := Lib.hid (fun W hW => leaf7_ok s U m d W hW)
    have hs1 := hs.alloc (.cells #[.int .i64 s.k, .int .i64 s.id, .int .i64 s.enc, .int .i64 s.sig, .int .i64 s.hash, .slice U m d] 50)
    unfold tv at HZ ⊢
    clear hk h he
    go_enter Tryd.func70, Tryd.ntmps70
    go_wp2_with (go_at_call 88; refine (HZ.out _ hs1).mono ?_; rintro e w' ⟨⟨b, rfl, hb⟩, hB⟩)
    go_ret
    exact ⟨⟨b, rfl, hb.trans HD.out⟩, bx _ hB⟩
  · have hxo : x % 2 = 1 := by omega
    refine (node7_par A n c t N x s U m d w h hN hn hx hxo hs hm hk).mono ?_
    rintro e w' ⟨⟨b, rfl, hb⟩, hB⟩
    refine ⟨⟨b, rfl, hb.trans ?_⟩, hB⟩
    rw [par7_iff (by rw [hlv]; exact hN) (by rw [hlv, h.len]; exact hn) hxo (by rw [h.len]; exact hx)]
    exact ⟨fun q => .inr (.inr ⟨hk, hxo, q⟩), fun q => by
      rcases q with q | q | q
      · exact absurd q.1 hk
      · have := q.2.1; omega
      · exact q.2.2⟩
theorem half_some {t : List TN} {N : Nat} (h : lvs t = N) : HalfT t ↔ ¬ SomeT t (N / 2) N := by
  unfold HalfT SomeT
  rw [h]
  constructor
  · rintro q ⟨i, h1, h2, h3⟩
    exact q i h1 h2 ⟨by omega, by rw [h]; omega, by rw [Int.toNat_natCast]; exact h3⟩
  · intro q i h1 h2 ⟨h3, h4, h5⟩
    rw [Int.toNat_natCast] at h5
    exact q ⟨i, h1, h2, h5⟩
theorem some_bool (A : Option Addr) (n c : Nat) (t : List TN) (p q : Nat) (hn : n ≤ 1000) (hq : 2 * q ≤ n + 1) (hpq : p ≤ q) :
    ∃ b : Bool, (b = true ↔ SomeT t p q) ∧ ∀ W, Ts W A n c t → Calls Tryd.prog 69 #[.slice A n c, .int .i64 (p : Int), .int .i64 (q : Int)] W fun e w' => e = .returned (.bool b) ∧ W = w' := by
  by_cases hh : SomeT t p q
  · exact ⟨true, by simp [hh], fun W hW => (some7_ok A n c t p q W hW hn hq hpq).mono fun e w' ⟨⟨b, e1, e2⟩, e3⟩ => ⟨by cases b; exact absurd (e2.2 hh) (by simp); exact e1, e3⟩⟩
  · exact ⟨false, by simp [hh], fun W hW => (some7_ok A n c t p q W hW hn hq hpq).mono fun e w' ⟨⟨b, e1, e2⟩, e3⟩ => ⟨by cases b; exact e1; exact absurd (e2.1 rfl) hh, e3⟩⟩
set_option maxRecDepth 100000 in
set_option maxHeartbeats 8000000 in
theorem check7_ok (A : Option Addr) (n c : Nat) (t : List TN) (w : World) (h : Ts w A n c t) (hn : n ≤ 140) (hu : Hid (∀ s ∈ t, s.un.length ≤ 1000)) :
    Calls Tryd.prog 38 #[.slice A n c] w fun e w' => e = .returned (.int .i64 (chkE t)) ∧ Below w.heap.size w w' := by
  have HL := Lib.hid h.len
  have hlv : Hid (lvs t = (n + 1) / 2) := Lib.hid (by unfold lvs; rw [h.len])
  obtain ⟨N, hN⟩ : ∃ N, (n + 1) / 2 = N := ⟨_, rfl⟩
  rw [hN] at hlv
  by_cases hs : N ∈ sizes ∧ n + 1 = 2 * N
  rotate_left
  · have HD : Hid (chkE t = 1) := Lib.hid (chk_no (fun q => hs (by have q1 := q.1; have q2 := q.2.1; rw [hlv.out] at q1 q2; rw [HL.out] at q2; exact ⟨q1, q2⟩)))
    have H7 := Lib.hid (fun W => leaves7_no A n c W (fun M hM e => hs (by have : N = M := by omega
                                                                          subst this; exact ⟨hM, e⟩)))
    clear hs hN h hu
    go_enter Tryd.func38, Tryd.ntmps38
    go_wp2_with (go_at_call 68; refine (H7.out _).mono ?_; rintro e w' ⟨rfl, rfl⟩)
    go_ret
    exact ⟨by rw [HD.out]; rfl, Below.refl _ _⟩
  obtain ⟨hs, hl⟩ := hs
  have H7 := Lib.hid (fun W => leaves7_yes A n c N W hs hl)
  have hNs := size_le hs
  have hsm := small_of hs hl hn
  have tN : ((N : Int) == 0) = false := by rw [beq_eq_false_iff_ne]; omega
  have HHS := Lib.hid (half_some hlv.out)
  obtain ⟨a, ha, hA⟩ := some_bool A n c t 0 N (by omega) (by omega) (by omega)
  obtain ⟨b, hb, hBs⟩ := some_bool A n c t (N / 2) N (by omega) (by omega) (by omega)
  have H1 := Lib.hid hA; have H2 := Lib.hid hBs
  rw [show ((0 : Nat) : Int) = 0 from rfl] at H1
  have eN : (N : Int) / 2 = ((N / 2 : Nat) : Int) := by omega
  obtain ⟨p, hp⟩ : ∃ p, N / 2 = p := ⟨_, rfl⟩
  have hpp := hp
  rw [hp] at H2 eN HHS hb
  clear hA hBs hp
  have HN := Lib.hid hN; have HS := Lib.hid hs; have HLN := Lib.hid hl; have HSM := Lib.hid hsm
  cases a
  · have HD : Hid (chkE t = 1) := Lib.hid (chk_no (fun q => by
      have : ¬ SomeT t 0 N := fun r => by have := ha.2 r; simp at this
      exact q.2.2.1 (HHS.out.2 (fun ⟨i, h1, h2, h3⟩ => this ⟨i, Nat.zero_le _, h2, h3⟩))))
    clear hs hl hsm hN ha hb hu
    go_enter Tryd.func38, Tryd.ntmps38
    go_wp2_with (first
      | (go_at_call 68; refine (H7.out _).mono ?_; rintro e w' ⟨rfl, rfl⟩)
      | (go_at_call 69; refine (H1.out _ h).mono ?_; rintro e w' ⟨rfl, rfl⟩))
    go_ret
    exact ⟨by rw [HD.out]; rfl, Below.refl _ _⟩
  have key : (N = 1 ∨ b = true) ∨ (1 < N ∧ b = false) := by cases b <;> simp <;> omega
  rcases key with key | ⟨k1, rfl⟩
  rotate_left
  · have HD : Hid (chkE t = 1) := Lib.hid (chk_no (fun q => by
      have : ¬ SomeT t p N := fun r => by have := hb.2 r; simp at this
      exact q.2.2.1 (HHS.out.2 this)))
    have u1 : decide ((1 : Int) < (N : Int)) = true := decide_eq_true (by omega)
    have u1' : decide (1 < N) = true := decide_eq_true (by omega)
    clear hs hl hsm hN ha hb hu k1
    go_enter Tryd.func38, Tryd.ntmps38
    go_wp2_with fail
    refine (H7.out _).mono ?_; rintro e w' ⟨rfl, rfl⟩
    go_wp2_with fail
    refine (H1.out _ h).mono ?_; rintro e w' ⟨rfl, rfl⟩
    go_wp2_with fail
    refine (H2.out _ h).mono ?_; rintro e w' ⟨rfl, rfl⟩
    go_wp2_with fail
    go_ret
    exact ⟨by rw [HD.out]; rfl, Below.refl _ _⟩
  have HNH : Hid (¬ HalfT t) := Lib.hid (fun q => by
    have q1 := HHS.out.1 q
    rcases key with rfl | rfl
    · obtain rfl : p = 0 := by omega
      exact q1 (ha.1 rfl)
    · exact q1 (hb.1 rfl))
  have HNd := Lib.hid (fun x s U m d W hW hx hs hm => node7_ok A n c t N x s U m d W hW HSM.out HLN.out hx hs hm)
  rcases Nat.lt_or_ge 1 N with h1N | h1N
  · obtain rfl : b = true := by rcases key with q | q; omega; exact q
    have u1 : decide ((1 : Int) < (N : Int)) = true := decide_eq_true (by omega)
    have u1' : decide (1 < N) = true := decide_eq_true (by omega)
    clear hs hl hsm hN ha hb key
    go_enter Tryd.func38, Tryd.ntmps38
    go_wp2_with fail
    refine (H7.out _).mono ?_; rintro e w' ⟨rfl, rfl⟩
    go_wp2_with fail
    refine (H1.out _ h).mono ?_; rintro e w' ⟨rfl, rfl⟩
    go_wp2_with fail
    refine (H2.out _ h).mono ?_; rintro e w' ⟨rfl, rfl⟩
    go_wp2_with fail
    go_loopw [30] (fun i wr => ∃ k : Nat, k ≤ n ∧ i = .int .i64 (k : Int) ∧ Hid (∀ x s, x < k → t[x]? = some s → NodeT t x s) ∧ Below w.heap.size w wr) (fun i _ => n - (intOf i).toNat)
    case atStart => exact ⟨0, Nat.zero_le _, rfl, Lib.hid (fun x s hx => by omega), Below.refl _ _⟩
    case round =>
      obtain ⟨k, hk, rfl, ha, hBr⟩ := hrel
      by_cases hlt : k < n
      · have hr := h.below hBr
        obtain ⟨ad, s, U, m, d, hA, hks, hat⟩ := hr.at_ hlt
        have hun := hat.un
        have hm : Hid (m ≤ 1000) := Lib.hid (by have h1 := hu.out s (List.mem_of_getElem? hks); have h2 := hun.len; rw [iv_length] at h2; omega)
        have HKS := Lib.hid hks
        obtain ⟨c0, c1, c2, c3, c4, c5, _⟩ := hat
        subst hA
        have hr1 := hr.alloc (.cells #[.int .i64 s.k, .int .i64 s.id, .int .i64 s.enc, .int .i64 s.sig, .int .i64 s.hash, .slice U m d] 50)
        have hun1 := hun.alloc (.cells #[.int .i64 s.k, .int .i64 s.id, .int .i64 s.enc, .int .i64 s.sig, .int .i64 s.hash, .slice U m d] 50)
        have hB1 := nxa hBr (.cells #[.int .i64 s.k, .int .i64 s.id, .int .i64 s.enc, .int .i64 s.sig, .int .i64 s.hash, .slice U m d] 50)
        have HNO : Hid (¬ NodeT t k s → chkE t = 1) := Lib.hid (fun q => chk_no (fun p => q (p.2.2.2 k s HKS.out)))
        have HYES : Hid (NodeT t k s → ∀ x s, x < k + 1 → t[x]? = some s → NodeT t x s) := Lib.hid (fun q x u hx hu => by
          by_cases e : x = k
          · subst e; rw [HKS.out] at hu; obtain rfl := Option.some.inj hu; exact q
          · exact ha.out x u (by omega) hu)
        have h3 := HNd.out k s U m d _ hr1 hlt hun1 hm.out
        unfold tv at h3
        have HC3 := Lib.hid h3
        clear h3 ha hr hun hks hr1 hun1
        go_wp2_with fail
        refine HC3.out.mono ?_; rintro e w3 ⟨⟨lb, rfl, hlb⟩, hB3⟩
        have hB3r := nx hB1 hB3
        have HLB := Lib.hid hlb
        clear hB3 hlb
        cases lb
        · have HD := Lib.hid (HNO.out (fun q => by have := HLB.out.2 q; simp at this))
          go_wp2_with fail
          go_ret
          exact ⟨by rw [HD.out]; rfl, hB3r⟩
        · have HY := Lib.hid (HYES.out (HLB.out.1 rfl))
          go_wp2_with fail
          go_roundw
          case rel => exact ⟨k + 1, by omega, by go_num, HY, hB3r⟩
          case measure => simp [intOf]; omega
      · obtain rfl : k = n := by omega
        have HD : Hid (chkE t = 0) := Lib.hid (chk_yes ⟨by rw [hlv.out]; exact HS.out, by rw [hlv.out, HL.out]; exact HLN.out, HNH.out, fun x s hs => ha.out x s (by have := (List.getElem?_eq_some_iff.1 hs).1; rw [HL.out] at this; exact this) hs⟩)
        clear ha
        go_wp2_with fail
        go_ret
        exact ⟨by rw [HD.out]; rfl, hBr⟩
  · have u1 : decide ((1 : Int) < (N : Int)) = false := decide_eq_false (by omega)
    have u1' : decide (1 < N) = false := decide_eq_false (by omega)
    clear hs hl hsm hN ha hb key
    go_enter Tryd.func38, Tryd.ntmps38
    go_wp2_with fail
    refine (H7.out _).mono ?_; rintro e w' ⟨rfl, rfl⟩
    go_wp2_with fail
    refine (H1.out _ h).mono ?_; rintro e w' ⟨rfl, rfl⟩
    go_wp2_with fail
    go_loopw [30] (fun i wr => ∃ k : Nat, k ≤ n ∧ i = .int .i64 (k : Int) ∧ Hid (∀ x s, x < k → t[x]? = some s → NodeT t x s) ∧ Below w.heap.size w wr) (fun i _ => n - (intOf i).toNat)
    case atStart => exact ⟨0, Nat.zero_le _, rfl, Lib.hid (fun x s hx => by omega), Below.refl _ _⟩
    case round =>
      obtain ⟨k, hk, rfl, ha, hBr⟩ := hrel
      by_cases hlt : k < n
      · have hr := h.below hBr
        obtain ⟨ad, s, U, m, d, hA, hks, hat⟩ := hr.at_ hlt
        have hun := hat.un
        have hm : Hid (m ≤ 1000) := Lib.hid (by have h1 := hu.out s (List.mem_of_getElem? hks); have h2 := hun.len; rw [iv_length] at h2; omega)
        have HKS := Lib.hid hks
        obtain ⟨c0, c1, c2, c3, c4, c5, _⟩ := hat
        subst hA
        have hr1 := hr.alloc (.cells #[.int .i64 s.k, .int .i64 s.id, .int .i64 s.enc, .int .i64 s.sig, .int .i64 s.hash, .slice U m d] 50)
        have hun1 := hun.alloc (.cells #[.int .i64 s.k, .int .i64 s.id, .int .i64 s.enc, .int .i64 s.sig, .int .i64 s.hash, .slice U m d] 50)
        have hB1 := nxa hBr (.cells #[.int .i64 s.k, .int .i64 s.id, .int .i64 s.enc, .int .i64 s.sig, .int .i64 s.hash, .slice U m d] 50)
        have HNO : Hid (¬ NodeT t k s → chkE t = 1) := Lib.hid (fun q => chk_no (fun p => q (p.2.2.2 k s HKS.out)))
        have HYES : Hid (NodeT t k s → ∀ x s, x < k + 1 → t[x]? = some s → NodeT t x s) := Lib.hid (fun q x u hx hu => by
          by_cases e : x = k
          · subst e; rw [HKS.out] at hu; obtain rfl := Option.some.inj hu; exact q
          · exact ha.out x u (by omega) hu)
        have h3 := HNd.out k s U m d _ hr1 hlt hun1 hm.out
        unfold tv at h3
        have HC3 := Lib.hid h3
        clear h3 ha hr hun hks hr1 hun1
        go_wp2_with fail
        refine HC3.out.mono ?_; rintro e w3 ⟨⟨lb, rfl, hlb⟩, hB3⟩
        have hB3r := nx hB1 hB3
        have HLB := Lib.hid hlb
        clear hB3 hlb
        cases lb
        · have HD := Lib.hid (HNO.out (fun q => by have := HLB.out.2 q; simp at this))
          go_wp2_with fail
          go_ret
          exact ⟨by rw [HD.out]; rfl, hB3r⟩
        · have HY := Lib.hid (HYES.out (HLB.out.1 rfl))
          go_wp2_with fail
          go_roundw
          case rel => exact ⟨k + 1, by omega, by go_num, HY, hB3r⟩
          case measure => simp [intOf]; omega
      · obtain rfl : k = n := by omega
        have HD : Hid (chkE t = 0) := Lib.hid (chk_yes ⟨by rw [hlv.out]; exact HS.out, by rw [hlv.out, HL.out]; exact HLN.out, HNH.out, fun x s hs => ha.out x s (by have := (List.getElem?_eq_some_iff.1 hs).1; rw [HL.out] at this; exact this) hs⟩)
        clear ha
        go_wp2_with fail
        go_ret
        exact ⟨by rw [HD.out]; rfl, hBr⟩
end Go.Proofs.YtieeinppoiihpaaDoor
