/- The walk of ratchet's Check. -/
import Derived.Test.YtieeinppoiihpaaDoorRPar
namespace Go.Proofs.YtieeinppoiihpaaDoor
open Go.RowKit

/-- a node may stand at its place -/
def NodeT (t : List TN) (x : Nat) (s : TN) : Prop := (s.k = 0 ∧ ZeroT s) ∨ (s.k ≠ 0 ∧ x % 2 = 0 ∧ LeafT s) ∨ (s.k ≠ 0 ∧ x % 2 = 1 ∧ ParT t x s)
def HalfT (t : List TN) : Prop := ∀ i : Nat, lvs t / 2 ≤ i → i < lvs t → ¬ Pres t i
def ChkT (t : List TN) : Prop := lvs t ∈ sizes ∧ t.length + 1 = 2 * lvs t ∧ ¬ HalfT t ∧ ∀ x s, t[x]? = some s → NodeT t x s
open Classical in
noncomputable def chkE (t : List TN) : Int := if ChkT t then 0 else 1
theorem chk_yes {t : List TN} (h : ChkT t) : chkE t = 0 := by unfold chkE; rw [if_pos h]
theorem chk_no {t : List TN} (h : ¬ ChkT t) : chkE t = 1 := by unfold chkE; rw [if_neg h]
theorem At6.get {w : World} {p : Addr} {s : TN} {A : Option Addr} {n c : Nat} (h : At6 w p s A n c) {P : Prop} (hp : w.cell? p = some (.int .i64 s.k) → w.cell? ⟨p.block, p.off + 1, none⟩ = some (.int .i64 s.id) → w.cell? ⟨p.block, p.off + 2, none⟩ = some (.int .i64 s.enc) → w.cell? ⟨p.block, p.off + 3, none⟩ = some (.int .i64 s.sig) → w.cell? ⟨p.block, p.off + 4, none⟩ = some (.int .i64 s.hash) → w.cell? ⟨p.block, p.off + 5, none⟩ = some (.slice A n c) → P) : P := hp h.c0 h.c1 h.c2 h.c3 h.c4 h.c5
/-- a box with a node in it -/
structure Bx6 (w : World) (g : Nat) (s : TN) (A : Option Addr) (n c : Nat) : Prop where
  c0 : w.cell? ⟨g, 0, none⟩ = some (.int .i64 s.k)
  c1 : w.cell? ⟨g, 1, none⟩ = some (.int .i64 s.id)
  c2 : w.cell? ⟨g, 2, none⟩ = some (.int .i64 s.enc)
  c3 : w.cell? ⟨g, 3, none⟩ = some (.int .i64 s.sig)
  c4 : w.cell? ⟨g, 4, none⟩ = some (.int .i64 s.hash)
  c5 : w.cell? ⟨g, 5, none⟩ = some (.slice A n c)
theorem Bx6.below {w w' : World} {g b : Nat} {s : TN} {A : Option Addr} {n c : Nat} (h : Bx6 w g s A n c) (hb : Below b w w') (hg : g < b) : Bx6 w' g s A n c :=
  ⟨(hb.cell (p := ⟨g, 0, none⟩) hg).trans h.c0, (hb.cell (p := ⟨g, 1, none⟩) hg).trans h.c1, (hb.cell (p := ⟨g, 2, none⟩) hg).trans h.c2, (hb.cell (p := ⟨g, 3, none⟩) hg).trans h.c3, (hb.cell (p := ⟨g, 4, none⟩) hg).trans h.c4, (hb.cell (p := ⟨g, 5, none⟩) hg).trans h.c5⟩
theorem Bx6.new (w : World) (s : TN) (A : Option Addr) (n c : Nat) (t : TypeId) : Bx6 (w.alloc (.cells #[.int .i64 s.k, .int .i64 s.id, .int .i64 s.enc, .int .i64 s.sig, .int .i64 s.hash, .slice A n c] t)) w.heap.size s A n c := by
  constructor <;> simp
theorem half_bool (A : Option Addr) (n c : Nat) (t : List TN) (hn : n ≤ 1000) :
    ∃ b : Bool, (b = true ↔ HalfT t) ∧ ∀ W, Ts W A n c t → Calls Tryd.prog 94 #[.slice A n c] W fun e w' => e = .returned (.bool b) ∧ W = w' := by
  by_cases hh : HalfT t
  · exact ⟨true, by simp [hh], fun W hW => (half_ok A n c t W hW hn).mono fun e w' ⟨⟨b, e1, e2⟩, e3⟩ => ⟨by cases b; exact absurd (e2.2 hh) (by simp); exact e1, e3⟩⟩
  · exact ⟨false, by simp [hh], fun W hW => (half_ok A n c t W hW hn).mono fun e w' ⟨⟨b, e1, e2⟩, e3⟩ => ⟨by cases b; exact e1; exact absurd (e2.1 rfl) hh, e3⟩⟩
set_option maxRecDepth 100000 in
set_option maxHeartbeats 8000000 in
theorem check_ok (A : Option Addr) (n c : Nat) (t : List TN) (w : World) (h : Ts w A n c t) (hn : n ≤ 1000) (hwf : Hid (∀ s ∈ t, TWf s)) (hu : Hid (∀ s ∈ t, s.un.length ≤ 1000)) (hT : Tab w) :
    Calls Tryd.prog 89 #[.slice A n c] w fun e w' => e = .returned (.int .i64 (chkE t)) ∧ Below w.heap.size w w' := by
  have HL := Lib.hid h.len
  have hlv : Hid (lvs t = (n + 1) / 2) := Lib.hid (by unfold lvs; rw [h.len])
  have H1 := Lib.hid (fun W => leaves_len A n c W hn)
  obtain ⟨N, hN⟩ : ∃ N, (n + 1) / 2 = N := ⟨_, rfl⟩
  rw [hN] at H1 hlv
  by_cases hs : N ∈ sizes
  rotate_left
  · have HD : Hid (chkE t = 1) := Lib.hid (chk_no (fun q => hs (by have := q.1; rwa [hlv.out] at this)))
    have HW := Lib.hid (fun W => width_no (N : Int) W (.inr (.inr (by rw [Int.toNat_natCast]; exact hs))))
    clear hs hN h hT hwf hu
    go_enter Tryd.func89, Tryd.ntmps89
    go_wp2_with (first
      | (go_at_call 93; refine (H1.out _).mono ?_; rintro e w' ⟨rfl, rfl⟩)
      | (go_at_call 27; refine (HW.out _).mono ?_; rintro e w1 ⟨rfl, hB⟩))
    go_ret
    exact ⟨by rw [HD.out]; rfl, hB⟩
  have HW := Lib.hid (fun W => width_ok N W hs)
  by_cases hl : n + 1 = 2 * N
  rotate_left
  · have HD : Hid (chkE t = 1) := Lib.hid (chk_no (fun q => hl (by have := q.2.1; rwa [hlv.out, HL.out] at this)))
    have t1 : (2 * (N : Int) - 1 != (n : Int)) = true := by rw [bne_iff_ne]; omega
    clear hs hN hl h hT hwf hu
    go_enter Tryd.func89, Tryd.ntmps89
    go_wp2_with (first
      | (go_at_call 93; refine (H1.out _).mono ?_; rintro e w' ⟨rfl, rfl⟩)
      | (go_at_call 27; refine (HW.out _).mono ?_; rintro e w1 ⟨rfl, hB⟩))
    go_ret
    exact ⟨by rw [HD.out]; rfl, hB⟩
  have t1 : (2 * (N : Int) - 1 != (n : Int)) = false := by rw [bne_eq_false_iff_eq]; omega
  obtain ⟨hb, hhb, hH⟩ := half_bool A n c t hn
  have HH := Lib.hid hH
  clear hH
  cases hb
  rotate_left
  · have HD : Hid (chkE t = 1) := Lib.hid (chk_no (fun q => q.2.2.1 (hhb.1 rfl)))
    clear hs hN hl hhb hT hwf hu
    go_enter Tryd.func89, Tryd.ntmps89
    go_wp2_with (first
      | (go_at_call 93; refine (H1.out _).mono ?_; rintro e w' ⟨rfl, rfl⟩)
      | (go_at_call 27; refine (HW.out _).mono ?_; rintro e w1 ⟨rfl, hB⟩))
    refine (HH.out _ (h.below hB)).mono ?_; rintro e w' ⟨rfl, rfl⟩
    go_wp2_with fail
    go_ret
    exact ⟨by rw [HD.out]; rfl, hB⟩
  have HNH : Hid (¬ HalfT t) := Lib.hid (fun q => by simpa using hhb.2 q)
  have HS := Lib.hid hs
  have HN := Lib.hid hl
  clear hs hN hl hhb
  go_enter Tryd.func89, Tryd.ntmps89
  go_wp2_with (first
    | (go_at_call 93; refine (H1.out _).mono ?_; rintro e w' ⟨rfl, rfl⟩)
    | (go_at_call 27; refine (HW.out _).mono ?_; rintro e w1 ⟨rfl, hB⟩))
  have h1 := h.below hB
  have hT1 := hT.below' hB
  refine (HH.out _ h1).mono ?_; rintro e w' ⟨rfl, rfl⟩
  have HZ := Lib.hid (fun (s : TN) A n c W hw hs => zero_ok s A n c W hw hs)
  have HLf := Lib.hid (fun (s : TN) A n c W hs => leafn_ok s A n c W hs)
  have HP := Lib.hid (fun x s U m d W hW hx hxo hs hm hT => rparent_ok A n c t N x s U m d W hW HS.out HN.out hx hxo hs hm hT)
  go_wp2_with fail
  go_loopw [28] (fun i wr => ∃ k : Nat, k ≤ n ∧ i = .int .i64 (k : Int) ∧ Hid (∀ x s, x < k → t[x]? = some s → NodeT t x s) ∧ Below w1.heap.size w1 wr) (fun i _ => n - (intOf i).toNat)
  case atStart => exact ⟨0, Nat.zero_le _, rfl, Lib.hid (fun x s hx => by omega), Below.refl _ _⟩
  case round =>
    obtain ⟨k, hk, rfl, ha, hBr⟩ := hrel
    by_cases hlt : k < n
    · have hr := h1.below hBr
      have hTr := hT1.below' hBr
      obtain ⟨ad, s, U, m, d, hA, hks, hat⟩ := hr.at_ hlt
      have hun := hat.un
      have hm : Hid (m ≤ 1000) := Lib.hid (by have h1 := hu.out s (List.mem_of_getElem? hks); have h2 := hun.len; rw [iv_length] at h2; omega)
      have hsw := Lib.hid (hwf.out s (List.mem_of_getElem? hks))
      have HKS := Lib.hid hks
      obtain ⟨c0, c1, c2, c3, c4, c5, _⟩ := hat
      have hr0 := hr
      subst hA
      have hBW := hB.trans (hBr.mono hB.size)
      go_wp2_with fail
      have hr1 := hr.alloc (.cells #[.int .i64 s.k, .int .i64 s.id, .int .i64 s.enc, .int .i64 s.sig, .int .i64 s.hash, .slice U m d] 50)
      have hun1 := hun.alloc (.cells #[.int .i64 s.k, .int .i64 s.id, .int .i64 s.enc, .int .i64 s.sig, .int .i64 s.hash, .slice U m d] 50)
      have hT1r := hTr.alloc (.cells #[.int .i64 s.k, .int .i64 s.id, .int .i64 s.enc, .int .i64 s.sig, .int .i64 s.hash, .slice U m d] 50)
      have hbx := Bx6.new wr s U m d 50
      have hB1 := nxa hBr (.cells #[.int .i64 s.k, .int .i64 s.id, .int .i64 s.enc, .int .i64 s.sig, .int .i64 s.hash, .slice U m d] 50)
      obtain ⟨wq, hwq⟩ : ∃ wq, wr.alloc (.cells #[.int .i64 s.k, .int .i64 s.id, .int .i64 s.enc, .int .i64 s.sig, .int .i64 s.hash, .slice U m d] 50) = wq := ⟨_, rfl⟩
      obtain ⟨g, hg⟩ : ∃ g, wr.heap.size = g := ⟨_, rfl⟩
      have hgq : g < wq.heap.size := by rw [← hwq, ← hg]; simp
      rw [hwq] at hr1 hun1 hT1r hbx hB1 ⊢
      rw [hg] at hbx ⊢
      have HW0 := Lib.hid hwq; have HG0 := Lib.hid hg
      clear hwq hg c0 c1 c2 c3 c4 c5 hr hr0 hun hTr hks h1 hT1 h hT
      refine (HZ.out s U m d wq hsw hun1).mono ?_; rintro e w2 ⟨⟨zb, rfl, hzb⟩, hB2⟩
      obtain ⟨b0, b1, b2, b3, b4, b5⟩ := hbx.below hB2 hgq
      have hr2 := hr1.below hB2
      have hun2 := hun1.below hB2
      have hT2 := hT1r.below' hB2
      have hB2r := nx hB1 hB2
      have hBW2 := hB.trans (hB2r.mono hB.size)
      have HZB := Lib.hid hzb
      have HNO : Hid (¬ NodeT t k s → chkE t = 1) := Lib.hid (fun q => chk_no (fun p => q (p.2.2.2 k s HKS.out)))
      have HYES : Hid (NodeT t k s → ∀ x s, x < k + 1 → t[x]? = some s → NodeT t x s) := Lib.hid (fun q x u hx hu => by
        by_cases e : x = k
        · subst e; rw [HKS.out] at hu; obtain rfl := Option.some.inj hu; exact q
        · exact ha.out x u (by omega) hu)
      clear hzb hr1 hun1 hT1r hbx hB1 hB2 hgq ha hBW
      by_cases hk0 : s.k = 0
      · have t2 : (s.k == 0) = true := by rw [beq_iff_eq]; exact hk0
        cases zb
        · have HD := Lib.hid (HNO.out (fun q => by
            rcases q with q | q | q
            · have := HZB.out.2 q.2; simp at this
            · exact q.1 hk0
            · exact q.1 hk0))
          clear hk0
          go_wp2_with fail
          go_ret
          exact ⟨by rw [HD.out]; rfl, hBW2⟩
        · have HY := Lib.hid (HYES.out (.inl ⟨hk0, HZB.out.1 rfl⟩))
          clear hk0
          go_wp2_with fail
          go_roundw
          case rel => exact ⟨k + 1, by omega, by go_num, HY, hB2r⟩
          case measure => simp [intOf]; omega
      have t2 : (s.k == 0) = false := by rw [beq_eq_false_iff_ne]; exact hk0
      by_cases he : k % 2 = 0
      · have t3 : (((k : Int) % 2) == 0) = true := by rw [beq_iff_eq]; omega
        have HE := Lib.hid he; have HK0 := Lib.hid hk0
        clear hk0 he
        have h3 := HLf.out s U m d w2 hun2
        unfold tv at h3
        have HC3 := Lib.hid h3
        clear h3
        go_wp2_with (go_at_call 96; refine HC3.out.mono ?_; rintro e w3 ⟨⟨lb, rfl, hlb⟩, hB3⟩; have hB3r := nx hB2r hB3; clear hB3; have HLB := Lib.hid hlb; clear hlb; cases lb)
        · have HD := Lib.hid (HNO.out (fun q => by
            rcases q with q | q | q
            · exact HK0.out q.1
            · have := HLB.out.2 q.2.2; simp at this
            · have := q.2.1; have := HE.out; omega))
          have hBW3 := hB.trans (hB3r.mono hB.size)
          go_wp2_with fail
          go_ret
          exact ⟨by rw [HD.out]; rfl, hBW3⟩
        · have HY := Lib.hid (HYES.out (.inr (.inl ⟨HK0.out, HE.out, HLB.out.1 trivial⟩)))
          go_wp2_with fail
          go_roundw
          case rel => exact ⟨k + 1, by omega, by go_num, HY, hB3r⟩
          case measure => simp [intOf]; omega
      · have t3 : (((k : Int) % 2) == 0) = false := by rw [beq_eq_false_iff_ne]; omega
        have HE : Hid (k % 2 = 1) := Lib.hid (by omega)
        have HK0 := Lib.hid hk0
        clear hk0 he
        have h3 := HP.out k s U m d w2 hr2 hlt HE.out hun2 hm.out hT2
        unfold tv at h3
        have HC3 := Lib.hid h3
        clear h3
        go_wp2_with (go_at_call 97; refine HC3.out.mono ?_; rintro e w3 ⟨⟨lb, rfl, hlb⟩, hB3⟩; have hB3r := nx hB2r hB3; clear hB3; have HLB := Lib.hid hlb; clear hlb; cases lb)
        · have HD := Lib.hid (HNO.out (fun q => by
            rcases q with q | q | q
            · exact HK0.out q.1
            · have := q.2.1; have := HE.out; omega
            · have := HLB.out.2 q.2.2; simp at this))
          have hBW3 := hB.trans (hB3r.mono hB.size)
          go_wp2_with fail
          go_ret
          exact ⟨by rw [HD.out]; rfl, hBW3⟩
        · have HY := Lib.hid (HYES.out (.inr (.inr ⟨HK0.out, HE.out, HLB.out.1 trivial⟩)))
          go_wp2_with fail
          go_roundw
          case rel => exact ⟨k + 1, by omega, by go_num, HY, hB3r⟩
          case measure => simp [intOf]; omega
    · obtain rfl : k = n := by omega
      have HD : Hid (chkE t = 0) := Lib.hid (chk_yes ⟨by rw [hlv.out]; exact HS.out, by rw [hlv.out, HL.out]; exact HN.out, HNH.out, fun x s hs => ha.out x s (by have := (List.getElem?_eq_some_iff.1 hs).1; rw [HL.out] at this; exact this) hs⟩)
      have hBW := hB.trans (hBr.mono hB.size)
      go_wp2_with fail
      go_ret
      exact ⟨by rw [HD.out]; rfl, hBW⟩
end Go.Proofs.YtieeinppoiihpaaDoor
