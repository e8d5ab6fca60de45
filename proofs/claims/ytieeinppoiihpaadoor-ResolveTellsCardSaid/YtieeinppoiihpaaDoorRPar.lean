/- The walk of ratchet's parent. -/
import Derived.Test.YtieeinppoiihpaaDoorRChk
import Derived.Deep.RegionHeld3
namespace Go.Proofs.YtieeinppoiihpaaDoor
open Go.RowKit

/-- what stands ahead of a node in a path -/
def ahead (x : Nat) (l : List Nat) : List Nat := l.takeWhile fun y => !(y == x)
/-- a leaf's number may stand among a node's -/
def UnT (t : List TN) (x : Nat) (i : Int) : Prop :=
  (loN x : Int) ≤ i ∧ i < (hiN x : Int) ∧ Pres t i ∧ ∀ y ∈ ahead x (pathL (2 * i.toNat) (lvs t)), kd t y = 2 → i ∈ und t y
theorem nvg (l : List Nat) (k x : Nat) (h : l[k]? = some x) (hk : k < (nv l).length) : (nv l)[k]'hk = (x : Int) := by
  have h2 : (nv l)[k]? = some (x : Int) := by unfold nv; rw [List.getElem?_map, h]; rfl
  rw [List.getElem?_eq_getElem hk] at h2
  exact Option.some.inj h2
theorem ahead_at {x : Nat} : ∀ (l : List Nat) (k : Nat), l[k]? = some x → (∀ y ∈ l.take k, y ≠ x) → ahead x l = l.take k
  | [], k, h, _ => by simp at h
  | y :: r, 0, h, _ => by simp at h; subst h; simp [ahead]
  | y :: r, k + 1, h, hn => by
    have hy : y ≠ x := hn y (by simp)
    have ih := ahead_at r k (by simpa using h) (fun z hz => hn z (by simp [hz]))
    unfold ahead at ih ⊢
    rw [List.takeWhile_cons, if_pos (by simp [hy]), ih, List.take_succ_cons]
theorem ahead_all {x : Nat} : ∀ {l : List Nat}, (∀ y ∈ l, y ≠ x) → ahead x l = l
  | [], _ => rfl
  | y :: r, hn => by
    have ih := ahead_all (l := r) (fun z hz => hn z (List.mem_cons_of_mem _ hz))
    unfold ahead at ih ⊢
    rw [List.takeWhile_cons, if_pos (by simp [hn y List.mem_cons_self]), ih]
theorem ahead_mem {x : Nat} : ∀ (l : List Nat) (k y : Nat), l[k]? = some y → (∀ z ∈ l.take (k + 1), z ≠ x) → y ∈ ahead x l
  | [], k, y, h, _ => by simp at h
  | z :: r, 0, y, h, hn => by
    simp at h; subst h
    have hz : z ≠ x := hn z (by simp)
    unfold ahead
    rw [List.takeWhile_cons, if_pos (by simp [hz])]
    exact List.mem_cons_self
  | z :: r, k + 1, y, h, hn => by
    have hz : z ≠ x := hn z (by simp)
    have ih := ahead_mem r k y (by simpa using h) (fun u hu => hn u (by simp only [List.take_succ_cons, List.mem_cons]; exact .inr hu))
    unfold ahead at ih ⊢
    rw [List.takeWhile_cons, if_pos (by simp [hz])]
    exact List.mem_cons_of_mem _ ih
def ParT (t : List TN) (x : Nat) (s : TN) : Prop := s.k = 2 ∧ s.id = 0 ∧ s.sig = 0 ∧ Up s.un ∧ NA s.un ∧ ∀ i ∈ s.un, UnT t x i
set_option maxRecDepth 100000 in
set_option maxHeartbeats 8000000 in
theorem rparent_ok (A : Option Addr) (n c : Nat) (t : List TN) (N x : Nat) (s : TN) (U : Option Addr) (m d : Nat) (w : World) (h : Ts w A n c t) (hN : N ∈ sizes) (hn : n + 1 = 2 * N) (hx : x < n) (hxo : x % 2 = 1) (hs : Sl w U m d (iv s.un)) (hm : m ≤ 1000) (hT : Tab w) :
    Calls Tryd.prog 97 #[.slice A n c, .int .i64 (x : Int), tv s U m d] w fun e w' => BoolIs e (ParT t x s) ∧ Below w.heap.size w w' := by
  unfold tv
  by_cases hk : s.k = 2
  rotate_left
  · have t1 : (s.k != 2) = true := by rw [bne_iff_ne]; exact hk
    have HD : Hid (¬ ParT t x s) := Lib.hid (fun q => hk q.1)
    clear hk
    go_enter Tryd.func97, Tryd.ntmps97
    go_wp2_with fail
    go_quiet (fail)
    go_wp2_with fail
    go_ret
    exact ⟨⟨false, rfl, ⟨nofun, fun q => absurd q HD.out⟩⟩, below_drewN ((Below.refl _ w).alloc (Nat.le_refl _) _) _⟩
  have k1 : (s.k != 2) = false := by rw [bne_eq_false_iff_eq]; exact hk
  by_cases hid : s.id = 0
  rotate_left
  · have t1 : (s.id != 0) = true := by rw [bne_iff_ne]; exact hid
    have HD : Hid (¬ ParT t x s) := Lib.hid (fun q => hid q.2.1)
    clear hk hid
    go_enter Tryd.func97, Tryd.ntmps97
    go_wp2_with fail
    go_quiet (fail)
    go_wp2_with fail
    go_ret
    exact ⟨⟨false, rfl, ⟨nofun, fun q => absurd q HD.out⟩⟩, below_drewN ((Below.refl _ w).alloc (Nat.le_refl _) _) _⟩
  have k2 : (s.id != 0) = false := by rw [bne_eq_false_iff_eq]; exact hid
  by_cases hsg : s.sig = 0
  rotate_left
  · have t1 : (s.sig != 0) = true := by rw [bne_iff_ne]; exact hsg
    have HD : Hid (¬ ParT t x s) := Lib.hid (fun q => hsg q.2.2.1)
    clear hk hid hsg
    go_enter Tryd.func97, Tryd.ntmps97
    go_wp2_with fail
    go_quiet (fail)
    go_wp2_with fail
    go_ret
    exact ⟨⟨false, rfl, ⟨nofun, fun q => absurd q HD.out⟩⟩, below_drewN ((Below.refl _ w).alloc (Nat.le_refl _) _) _⟩
  have k3 : (s.sig != 0) = false := by rw [bne_eq_false_iff_eq]; exact hsg
  have HS := Lib.hid (fun W hW => sorted_ok U m d s.un W hW hm)
  by_cases hup : Up s.un
  rotate_left
  · have HD : Hid (¬ ParT t x s) := Lib.hid (fun q => hup q.2.2.2.1)
    have HS2 := Lib.hid (fun W hW => (HS.out W hW).mono (R' := fun e w' => e = .returned (.bool false) ∧ ∃ m, w' = W.drewN m) (fun e w' ⟨⟨b, e1, e2⟩, e3⟩ => ⟨by cases b; exact e1; exact absurd (e2.1 rfl) hup, e3⟩))
    have hs1 := hs.alloc (.cells #[.int .i64 s.k, .int .i64 s.id, .int .i64 s.enc, .int .i64 s.sig, .int .i64 s.hash, .slice U m d] 50)
    clear hk hid hsg hup
    go_enter Tryd.func97, Tryd.ntmps97
    go_wp2_with fail
    go_quiet (first | (go_at_call 99; exact Calls.quiet_of (HS2.out _ (hs1.drewN _))))
    go_wp2_with fail
    go_ret
    exact ⟨⟨false, rfl, ⟨nofun, fun q => absurd q HD.out⟩⟩, below_drewN ((Below.refl _ w).alloc (Nat.le_refl _) _) _⟩
  have HS2 := Lib.hid (fun W hW => (HS.out W hW).mono (R' := fun e w' => e = .returned (.bool true) ∧ ∃ m, w' = W.drewN m) (fun e w' ⟨⟨b, e1, e2⟩, e3⟩ => ⟨by cases b; exact absurd (e2.2 hup) (by simp); exact e1, e3⟩))
  have HUP := Lib.hid hup
  have HC := Lib.hid (fun W hW => clone_ok U m d s.un W hW (by omega))
  have HK := Lib.hid hk; have HI := Lib.hid hid; have HG3 := Lib.hid hsg
  clear hup HS hk hid hsg
  have hs1 := hs.alloc (.cells #[.int .i64 s.k, .int .i64 s.id, .int .i64 s.enc, .int .i64 s.sig, .int .i64 s.hash, .slice U m d] 50)
  go_enter Tryd.func97, Tryd.ntmps97
  go_wp2_with fail
  obtain ⟨w0, hw0⟩ : ∃ w0, w.alloc (.cells #[.int .i64 s.k, .int .i64 s.id, .int .i64 s.enc, .int .i64 s.sig, .int .i64 s.hash, .slice U m d] 50) = w0 := ⟨_, rfl⟩
  obtain ⟨g, hg⟩ : ∃ g, w.heap.size = g := ⟨_, rfl⟩
  have hgw : g < w0.heap.size := by rw [← hw0, ← hg]; simp
  have c0 : w0.cell? ⟨g, 0, none⟩ = some (.int .i64 s.k) := by rw [← hw0, ← hg]; simp
  have c1 : w0.cell? ⟨g, 1, none⟩ = some (.int .i64 s.id) := by rw [← hw0, ← hg]; simp
  have c3 : w0.cell? ⟨g, 3, none⟩ = some (.int .i64 s.sig) := by rw [← hw0, ← hg]; simp
  have c5 : w0.cell? ⟨g, 5, none⟩ = some (.slice U m d) := by rw [← hw0, ← hg]; simp
  rw [hw0] at hs1 ⊢
  rw [hg] at ⊢
  have HW := Lib.hid hw0; have HG := Lib.hid hg
  clear hw0 hg
  go_region_held3 (fun w' => w'.cell? ⟨g, 0, none⟩ = some (.int .i64 s.k) ∧ w'.cell? ⟨g, 1, none⟩ = some (.int .i64 s.id) ∧ w'.cell? ⟨g, 3, none⟩ = some (.int .i64 s.sig) ∧ w'.cell? ⟨g, 5, none⟩ = some (.slice U m d)) (first | exact ⟨c0, c1, c3, c5⟩ | exact ⟨(hB1.cell (p := ⟨g, 0, none⟩) hgw).trans c0, (hB1.cell (p := ⟨g, 1, none⟩) hgw).trans c1, (hB1.cell (p := ⟨g, 3, none⟩) hgw).trans c3, (hB1.cell (p := ⟨g, 5, none⟩) hgw).trans c5⟩ | exact ⟨(hB2'.cell (p := ⟨g, 0, none⟩) hgw).trans c0, (hB2'.cell (p := ⟨g, 1, none⟩) hgw).trans c1, (hB2'.cell (p := ⟨g, 3, none⟩) hgw).trans c3, (hB2'.cell (p := ⟨g, 5, none⟩) hgw).trans c5⟩ | exact ⟨(hB3'.cell (p := ⟨g, 0, none⟩) hgw).trans c0, (hB3'.cell (p := ⟨g, 1, none⟩) hgw).trans c1, (hB3'.cell (p := ⟨g, 3, none⟩) hgw).trans c3, (hB3'.cell (p := ⟨g, 5, none⟩) hgw).trans c5⟩) (first
    | (go_at_call 99; refine (HS2.out _ (hs1.drewN 1)).mono ?_; rintro e w1 ⟨rfl, hq1⟩; have hB1 : Below w0.heap.size w0 w1 := (by obtain ⟨q1, hq⟩ := hq1; rw [hq]; exact below_drewN ((Below.refl _ w0).drew) q1); clear hq1)
    | (go_at_call 78; refine (HC.out _ (hs1.below hB1)).mono ?_; rintro e w2 ⟨A2, c2, rfl, hO2, hB2⟩; have hB2' : Below w0.heap.size w0 w2 := hB1.trans (hB2.mono hB1.size))
    | (go_at_call 100; refine (compact_ok A2 m c2 s.un _ w2 hO2 hm).mono ?_; rintro e w3 ⟨q3, rfl, hq3, hB3⟩; have hB3' : Below w0.heap.size w0 w3 := hB2'.trans (hB3.mono hB1.size)))
  have hB3w : Below w.heap.size w w3 := by
    have h0 : Below w.heap.size w w0 := by rw [← HW.out]; exact (Below.refl _ w).alloc (Nat.le_refl _) _
    exact h0.trans (hB3'.mono h0.size)
  have d0 := (hB3'.cell (p := ⟨g, 0, none⟩) hgw).trans c0
  have d5 := (hB3'.cell (p := ⟨g, 5, none⟩) hgw).trans c5
  have hs3 : Sl w3 U m d (iv s.un) := hs1.below hB3'
  have hT3 : Tab w3 := hT.below' hB3w
  have h3 : Ts w3 A n c t := h.below hB3w
  clear hB1 hB2 hB2' hB3 hO2 hs1 c0 c1 c3 c5 hgw hB3' hs h hT
  by_cases hqm : q3 = m
  rotate_left
  · have HD : Hid (¬ ParT t x s) := Lib.hid (fun q => hqm (hq3.2 q.2.2.2.2.1))
    have u1 : ((q3 : Int) != (m : Int)) = true := by rw [bne_iff_ne]; omega
    clear hqm hq3
    go_wp2_with fail
    go_ret
    exact ⟨⟨false, rfl, ⟨nofun, fun q => absurd q HD.out⟩⟩, hB3w⟩
  · subst hqm
    have HNA := Lib.hid (hq3.1 rfl)
    have u1 : ((q3 : Int) != (q3 : Int)) = false := by simp
    clear hq3
    have hP : Hid (∀ j : Nat, j < N → Ins (2 * j) N) := Lib.hid (fun j hj => ⟨hN, by omega⟩)
    have HLV : Hid (lvs t = N) := Lib.hid (by unfold lvs; rw [h3.len]; omega)
    have hNs := size_le hN
    have HLU : Hid (s.un.length = q3) := Lib.hid (by have := hs3.len; rwa [iv_length] at this)
    have HPR := Lib.hid (fun i W hW => present_ok A n c t i W hW (by omega))
    have HLE := Lib.hid (fun W => leaves_len A n c W (by omega))
    have HPA := Lib.hid (fun j W (hj : j < N) hW => path_ok (2 * j) N W (hP.out j hj) hW)
    have HH3 := Lib.hid h3; have HS3 := Lib.hid hs3; have HT3 := Lib.hid hT3
    go_wp2_with fail
    refine (leaves_ok x w3 (by omega) hT3).mono ?_; rintro e w4 ⟨rfl, rfl⟩
    have hlo : Hid (UnT t x = fun i => (loN x : Int) ≤ i ∧ i < (hiN x : Int) ∧ Pres t i ∧ ∀ y ∈ ahead x (pathL (2 * i.toNat) (lvs t)), kd t y = 2 → i ∈ und t y) := Lib.hid rfl
    obtain ⟨lo, hlo'⟩ : ∃ lo, loN x = lo := ⟨_, rfl⟩
    obtain ⟨hi, hhi'⟩ : ∃ hi, hiN x = hi := ⟨_, rfl⟩
    rw [hlo', hhi'] at hlo ⊢
    clear hlo' hhi' h3 hT3 d0
    go_wp2_with fail
    go_loopw [55] (fun i wr => ∃ k : Nat, k ≤ q3 ∧ i = .int .i64 (k : Int) ∧ Hid (∀ i ∈ s.un.take k, UnT t x i) ∧ Below w3.heap.size w3 wr) (fun i _ => q3 - (intOf i).toNat)
    case atStart => exact ⟨0, Nat.zero_le _, rfl, Lib.hid (by simp), Below.refl _ _⟩
    case round =>
      obtain ⟨k, hk, rfl, ha, hB⟩ := hrel
      by_cases hlt : k < q3
      · obtain ⟨au, hlu, rfl, hcu⟩ := (hs3.below hB).int hlt
        obtain ⟨i, hi'⟩ : ∃ i, s.un[k]'hlu = i := ⟨_, rfl⟩
        have hi2 : s.un[k]? = some i := by rw [List.getElem?_eq_getElem hlu, hi']
        rw [hi'] at hcu
        have HI2 := Lib.hid hi2
        have HNO : Hid (¬ UnT t x i → ¬ ParT t x s) := Lib.hid (fun q1 q2 => q1 (q2.2.2.2.2.2 i (List.mem_of_getElem? HI2.out)))
        have HTK : Hid (UnT t x i → ∀ i ∈ s.un.take (k + 1), UnT t x i) := Lib.hid (fun q1 u hu => by
          rw [List.take_add_one, HI2.out, Option.toList_some] at hu
          rcases List.mem_append.1 hu with hu | hu
          · exact ha.out u hu
          · simp at hu; subst hu; exact q1)
        have hBw := hB3w.trans (hB.mono hB3w.size)
        clear hi' hi2 ha
        have hH := HH3.out.below hB
        have hTr := HT3.out.below' hB
        by_cases g1 : i < (lo : Int)
        · have u2 : decide (i < (lo : Int)) = true := decide_eq_true g1
          have HD := Lib.hid (HNO.out (by rw [hlo.out]; exact fun q => by have := q.1; omega))
          clear g1 hH hTr
          go_wp2_with fail
          go_ret
          exact ⟨⟨false, rfl, ⟨nofun, fun q => absurd q HD.out⟩⟩, hBw⟩
        have u2 : decide (i < (lo : Int)) = false := decide_eq_false g1
        by_cases g2 : (hi : Int) ≤ i
        · have u3 : decide ((hi : Int) ≤ i) = true := decide_eq_true g2
          have HD := Lib.hid (HNO.out (by rw [hlo.out]; exact fun q => by have := q.2.1; omega))
          clear g1 g2 hH hTr
          go_wp2_with fail
          go_ret
          exact ⟨⟨false, rfl, ⟨nofun, fun q => absurd q HD.out⟩⟩, hBw⟩
        have u3 : decide ((hi : Int) ≤ i) = false := decide_eq_false g2
        by_cases g3 : Pres t i
        rotate_left
        · have HD := Lib.hid (HNO.out (by rw [hlo.out]; exact fun q => g3 q.2.2.1))
          have hcall := HPR.out i wr hH
          rw [decide_eq_false g3] at hcall
          have HCC := Lib.hid hcall
          clear g1 g2 g3 hH hTr hcall
          go_wp2_with (go_at_call 98; refine HCC.out.mono ?_; rintro e w' ⟨rfl, rfl⟩)
          go_ret
          exact ⟨⟨false, rfl, ⟨nofun, fun q => absurd q HD.out⟩⟩, hBw⟩
        obtain ⟨j, rfl⟩ : ∃ j : Nat, i = j := ⟨i.toNat, by have := g3.1; omega⟩
        have hjN : j < N := by have := g3.2.1; rw [HLV.out] at this; omega
        have v1 : decide (j < lo) = false := decide_eq_false (by omega)
        have v2 : decide (hi ≤ j) = false := decide_eq_false (by omega)
        have v3 : lo ≤ j := by omega
        have v4 : j < hi := by omega
        have hcall := HPR.out (j : Int) wr hH
        rw [decide_eq_true g3] at hcall
        have HCC := Lib.hid hcall
        have HG := Lib.hid (show (lo : Int) ≤ (j : Int) ∧ (j : Int) < (hi : Int) ∧ Pres t (j : Int) from ⟨by omega, by omega, g3⟩)
        have HLN : Hid ((n + 1) / 2 = N) := Lib.hid (by omega)
        have hle := HLE.out wr
        rw [HLN.out] at hle
        have HLE2 := Lib.hid hle
        have e2 : 2 * (j : Int) = ((2 * j : Nat) : Int) := by omega
        have hpa := HPA.out j wr hjN hTr
        obtain ⟨P, hPe⟩ : ∃ P, pathL (2 * j) N = P := ⟨_, rfl⟩
        obtain ⟨j2, hj2⟩ : ∃ j2, 2 * j = j2 := ⟨_, rfl⟩
        rw [hj2] at e2
        rw [hPe, hj2] at hpa
        have HU : Hid (UnT t x (j : Int) ↔ ∀ y ∈ ahead x P, kd t y = 2 → (j : Int) ∈ und t y) := Lib.hid (by
          rw [hlo.out]
          show _ ∧ _ ∧ _ ∧ _ ↔ _
          rw [Int.toNat_natCast, HLV.out, hPe]
          exact ⟨fun q => q.2.2.2, fun q => ⟨HG.out.1, HG.out.2.1, HG.out.2.2, q⟩⟩)
        have HPI : Hid (∀ y ∈ P, y < n) := Lib.hid (fun y hy => by
          have := (pathL_ins (hP.out j hjN) y (by rw [hPe]; exact hy)).2; omega)
        obtain ⟨L, hL⟩ : ∃ L, P.length = L := ⟨_, rfl⟩
        rw [hL] at hpa
        have HLL := Lib.hid hL
        have HPA2 := Lib.hid hpa
        clear g1 g2 g3 hcall hle hpa hPe hL hTr hj2
        go_wp2_with (first
          | (go_at_call 98; refine HCC.out.mono ?_; rintro e w' ⟨rfl, rfl⟩)
          | (go_at_call 93; refine HLE2.out.mono ?_; rintro e w' ⟨rfl, rfl⟩)
          | (go_at_call 16; refine HPA2.out.mono ?_; rintro e w6 ⟨A6, c6, rfl, hO6, hB6⟩))
        have hP6 := hO6.sl
        have hBB := hB.trans (hB6.mono hB.size)
        have hH6 := hH.below hB6
        have hBw6 := hB3w.trans (hBB.mono hB3w.size)
        have hL0 : L ≤ 9223372036854775807 := by have h1 := hP6.top; have h2 := hP6.cap; unfold maxLen at h1; omega
        clear hO6 hB6 hH hBw
        go_loop [83] (fun i => ∃ q : Nat, q ≤ L ∧ i = .int .i64 (q : Int) ∧ Hid (∀ y ∈ P.take q, y ≠ x ∧ (kd t y = 2 → (j : Int) ∈ und t y))) (fun i => L - (intOf i).toNat)
        case atStart => exact ⟨0, Nat.zero_le _, rfl, Lib.hid (by simp)⟩
        case round =>
          obtain ⟨q, hq, rfl, hb⟩ := hrel
          by_cases hql : q < L
          · obtain ⟨ap, hlp, rfl, hcp⟩ := hP6.int hql
            obtain ⟨y, hy⟩ : ∃ y, P[q]? = some y := ⟨_, List.getElem?_eq_getElem (by rw [HLL.out]; exact hql)⟩
            rw [nvg P q y hy hlp] at hcp
            have hyn := HPI.out y (List.mem_of_getElem? hy)
            have HY := Lib.hid hy
            clear hy
            by_cases hyx : y = x
            · subst hyx
              have ty : ((y : Int) == (y : Int)) = true := by simp
              have HUU := Lib.hid (HTK.out (HU.out.2 (by rw [ahead_at P q HY.out (fun z hz => (hb.out z hz).1)]; exact fun z hz => (hb.out z hz).2)))
              clear hb
              go_wp2_with fail
              go_roundw
              case rel => exact ⟨k + 1, by omega, by go_num, HUU, hBB⟩
              case measure => simp [intOf]; omega
            · have ty : ((y : Int) == (x : Int)) = false := by rw [beq_eq_false_iff_ne]; omega
              obtain ⟨ad, sy, By, my, dy, rfl, hsy, hat⟩ := hH6.at_ hyn
              have hk0 := hat.c0
              have hk5 := hat.c5
              have hun := hat.un
              have i1 : (y : Int) < (n : Int) := by omega
              have HKD := Lib.hid (kd_at hsy)
              have HUD := Lib.hid (und_at hsy)
              have HNX : Hid (∀ z ∈ P.take (q + 1), z ≠ x) := Lib.hid (fun z hz => by
                rw [List.take_add_one, HY.out, Option.toList_some] at hz
                rcases List.mem_append.1 hz with hz | hz
                · exact (hb.out z hz).1
                · simp at hz; subst hz; exact hyx)
              have HNXT : Hid ((kd t y = 2 → (j : Int) ∈ und t y) → ∀ z ∈ P.take (q + 1), z ≠ x ∧ (kd t z = 2 → (j : Int) ∈ und t z)) := Lib.hid (fun q1 z hz => by
                rw [List.take_add_one, HY.out, Option.toList_some] at hz
                rcases List.mem_append.1 hz with hz | hz
                · exact hb.out z hz
                · simp at hz; subst hz; exact ⟨hyx, q1⟩)
              clear hsy hat hb hyx
              by_cases hk2 : sy.k = 2
              · have tk : (sy.k == 2) = true := by rw [beq_iff_eq]; exact hk2
                have hco := cont_ok By my dy sy.un (j : Int) _ hun
                by_cases hin : (j : Int) ∈ sy.un
                · rw [decide_eq_true hin] at hco
                  have HCO := Lib.hid hco
                  have HN2 := Lib.hid (HNXT.out (fun _ => by rw [HUD.out]; exact hin))
                  clear hco hk2 hin hun
                  go_wp2_with (go_at_call 80; refine HCO.out.mono ?_; rintro e w' ⟨rfl, rfl⟩)
                  go_round
                  case rel => exact ⟨q + 1, by omega, by go_num, HN2⟩
                  case measure => simp [intOf]; omega
                · rw [decide_eq_false hin] at hco
                  have HCO := Lib.hid hco
                  have HD := Lib.hid (HNO.out (fun q1 => hin (by have := HU.out.1 q1 y (ahead_mem P q y HY.out HNX.out) (by rw [HKD.out]; exact hk2); rwa [HUD.out] at this)))
                  clear hco hk2 hin hun
                  go_wp2_with (go_at_call 80; refine HCO.out.mono ?_; rintro e w' ⟨rfl, rfl⟩)
                  go_ret
                  exact ⟨⟨false, rfl, ⟨nofun, fun q => absurd q HD.out⟩⟩, hBw6⟩
              · have tk : (sy.k == 2) = false := by rw [beq_eq_false_iff_ne]; exact hk2
                have HN2 := Lib.hid (HNXT.out (fun q1 => absurd q1 (by rw [HKD.out]; exact hk2)))
                clear hk2 hun
                go_wp2_with fail
                go_round
                case rel => exact ⟨q + 1, by omega, by go_num, HN2⟩
                case measure => simp [intOf]; omega
          · obtain rfl : q = L := by omega
            have hPT : P.take q = P := by rw [← HLL.out, List.take_length]
            have HUU := Lib.hid (HTK.out (HU.out.2 (by
              have hb' := hb.out
              rw [hPT] at hb'
              rw [ahead_all (fun z hz => (hb' z hz).1)]; exact fun z hz => (hb' z hz).2)))
            clear hb hPT
            go_wp2_with fail
            go_roundw
            case rel => exact ⟨k + 1, by omega, by go_num, HUU, hBB⟩
            case measure => simp [intOf]; omega
      · obtain rfl : k = q3 := by omega
        have HALL : Hid (ParT t x s) := Lib.hid ⟨HK.out, HI.out, HG3.out, HUP.out, HNA.out, fun i hi => ha.out i (by rw [← HLU.out, List.take_length]; exact hi)⟩
        clear ha
        go_wp2_with fail
        go_ret
        exact ⟨⟨true, rfl, ⟨fun _ => HALL.out, fun _ => rfl⟩⟩, hB3w.trans (hB.mono hB3w.size)⟩
end Go.Proofs.YtieeinppoiihpaaDoor
