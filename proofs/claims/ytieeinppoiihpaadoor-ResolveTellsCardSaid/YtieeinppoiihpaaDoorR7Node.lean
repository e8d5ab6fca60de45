/- The walk of the reference's (chapter Ratchet) node. -/
import Derived.Test.YtieeinppoiihpaaDoorR7Path
namespace Go.Proofs.YtieeinppoiihpaaDoor
open Go.RowKit

theorem size_box (w : World) (o : Obj) : w.heap.size < (w.alloc o).heap.size := by simp
set_option maxRecDepth 100000 in
set_option maxHeartbeats 8000000 in
/-- a parent that is one by its kind -/
theorem node7_par (A : Option Addr) (n c : Nat) (t : List TN) (N x : Nat) (s : TN) (U : Option Addr) (m d : Nat) (w : World) (h : Ts w A n c t) (hN : N ∈ small) (hn : n + 1 = 2 * N) (hx : x < n) (hxo : x % 2 = 1) (hs : Sl w U m d (iv s.un)) (hm : m ≤ 1000) (hk : s.k ≠ 0) :
    Calls Tryd.prog 70 #[.slice A n c, .int .i64 (x : Int), tv s U m d] w fun e w' => BoolIs e (Par7 t x s) ∧ Below w.heap.size w w' := by
  have h1 := h.alloc (.cells #[.int .i64 s.k, .int .i64 s.id, .int .i64 s.enc, .int .i64 s.sig, .int .i64 s.hash, .slice U m d] 50)
  have hs1 := hs.alloc (.cells #[.int .i64 s.k, .int .i64 s.id, .int .i64 s.enc, .int .i64 s.sig, .int .i64 s.hash, .slice U m d] 50)
  have hB0 : Below w.heap.size w (w.alloc (.cells #[.int .i64 s.k, .int .i64 s.id, .int .i64 s.enc, .int .i64 s.sig, .int .i64 s.hash, .slice U m d] 50)) := (Below.refl _ w).alloc (Nat.le_refl _) _
  have tz : (s.k == 0) = false := by rw [beq_eq_false_iff_ne]; exact hk
  have tx : (((x : Int) % 2) == 0) = false := by rw [beq_eq_false_iff_ne]; omega
  unfold tv
  by_cases hk2 : s.k = 2
  rotate_left
  · have t1 : (s.k != 2) = true := by rw [bne_iff_ne]; exact hk2
    have HD : Hid (¬ Par7 t x s) := Lib.hid (fun q => hk2 q.1)
    clear hk2 hk h h1 hs hs1
    go_enter Tryd.func70, Tryd.ntmps70
    go_wp2_with fail
    go_ret
    exact ⟨⟨false, rfl, ⟨nofun, fun q => absurd q HD.out⟩⟩, hB0⟩
  have t1 : (s.k != 2) = false := by rw [bne_eq_false_iff_eq]; exact hk2
  by_cases hid : s.id = 0
  rotate_left
  · have t2 : (s.id != 0) = true := by rw [bne_iff_ne]; exact hid
    have HD : Hid (¬ Par7 t x s) := Lib.hid (fun q => hid q.2.1)
    clear hk2 hk hid h h1 hs hs1
    go_enter Tryd.func70, Tryd.ntmps70
    go_wp2_with fail
    go_ret
    exact ⟨⟨false, rfl, ⟨nofun, fun q => absurd q HD.out⟩⟩, hB0⟩
  have t2 : (s.id != 0) = false := by rw [bne_eq_false_iff_eq]; exact hid
  by_cases hsg : s.sig = 0
  rotate_left
  · have t3 : (s.sig != 0) = true := by rw [bne_iff_ne]; exact hsg
    have HD : Hid (¬ Par7 t x s) := Lib.hid (fun q => hsg q.2.2.1)
    clear hk2 hk hid hsg h h1 hs hs1
    go_enter Tryd.func70, Tryd.ntmps70
    go_wp2_with fail
    go_ret
    exact ⟨⟨false, rfl, ⟨nofun, fun q => absurd q HD.out⟩⟩, hB0⟩
  have t3 : (s.sig != 0) = false := by rw [bne_eq_false_iff_eq]; exact hsg
  have HHD : Hid (s.k = 2 ∧ s.id = 0 ∧ s.sig = 0) := Lib.hid ⟨hk2, hid, hsg⟩
  have hNs := size_le (small_sizes hN)
  have hx511 : x < 511 := by omega
  have HR := Lib.hid (fun W => rlvs_ok x W hx511)
  have hhi := hi_le hN (by omega : x + 1 < 2 * N)
  have hlh := lo_hi hx511
  have HU7 : Hid (∀ i, Un7 t x i ↔ (loN x : Int) ≤ i ∧ i < (hiN x : Int) ∧ Pres t i ∧ ∀ (z : Nat) (o : TN), t[z]? = some o → o.k = 2 → z ≠ x → UnderN (2 * i.toNat) z → UnderN z x → i ∈ o.un) := Lib.hid (fun i => Iff.rfl)
  obtain ⟨lo, hlo⟩ : ∃ lo, loN x = lo := ⟨_, rfl⟩
  obtain ⟨hi, hhi'⟩ : ∃ hi, hiN x = hi := ⟨_, rfl⟩
  rw [hlo, hhi'] at HR HU7 hlh
  rw [hhi'] at hhi
  have HLV : Hid (lvs t = N) := Lib.hid (by unfold lvs; rw [h.len]; omega)
  have HLU : Hid (s.un.length = m) := Lib.hid (by have := hs.len; rwa [iv_length] at this)
  obtain ⟨w0, hw0⟩ : ∃ w0, w.alloc (.cells #[.int .i64 s.k, .int .i64 s.id, .int .i64 s.enc, .int .i64 s.sig, .int .i64 s.hash, .slice U m d] 50) = w0 := ⟨_, rfl⟩
  have hb := Bx6.new w s U m d 50
  obtain ⟨g, hg⟩ : ∃ g, w.heap.size = g := ⟨_, rfl⟩
  have HG := Lib.hid hg
  rw [hw0] at h1 hs1 hB0 hb
  rw [hg] at hb
  obtain ⟨b0, b1, b2, b3, b4, b5⟩ := hb
  have HNS := Lib.hid hN
  have HLT := Lib.hid h.len
  clear hk2 hk hid hsg h hs hlo hhi' hN
  go_enter Tryd.func70, Tryd.ntmps70
  go_wp2_with (go_at_call 35; refine (HR.out _).mono ?_; rintro e w' ⟨rfl, rfl⟩)
  go_loopw [10, 52] (fun lv iv' wr => ∃ (k : Nat) (v : Int), k ≤ m ∧ iv' = .int .i64 (k : Int) ∧ lv = .int .i64 v ∧ (lo : Int) - 1 ≤ v ∧ v ≤ 1000 ∧ Hid (k = 0 → v = (lo : Int) - 1) ∧ Hid (∀ q, k = q + 1 → s.un[q]? = some v) ∧ Hid (∀ (i : Nat) (a b : Int), i + 1 < k → s.un[i]? = some a → s.un[i + 1]? = some b → a < b) ∧ Hid (∀ i ∈ s.un.take k, Un7 t x i) ∧ Below w0.heap.size w0 wr) (fun _ i _ => m - (intOf i).toNat)
  case atStart => exact ⟨0, (lo : Int) - 1, Nat.zero_le _, rfl, rfl, by omega, by omega, Lib.hid (fun _ => rfl), Lib.hid (fun q hq => by omega), Lib.hid (fun i a b hi => by omega), Lib.hid (by simp), Below.refl _ _⟩
  case round =>
    obtain ⟨k, v, hk, rfl, rfl, hv1, hv2, HV0, HVP, HRI, HUN, hB⟩ := hrel
    by_cases hlt : k < m
    · obtain ⟨au, hlu, rfl, hcu⟩ := (hs1.below hB).int hlt
      obtain ⟨i, hi'⟩ : ∃ i, s.un[k]'hlu = i := ⟨_, rfl⟩
      have hi2 : s.un[k]? = some i := by rw [List.getElem?_eq_getElem hlu, hi']
      rw [hi'] at hcu
      have HI2 := Lib.hid hi2
      have hBw := hB0.trans (hB.mono hB0.size)
      have HNO : Hid (¬ Un7 t x i → ¬ Par7 t x s) := Lib.hid (fun q1 q2 => q1 (q2.2.2.2.2 i (List.mem_of_getElem? HI2.out)))
      have hh := h1.below hB
      clear hi' hi2
      by_cases g1 : i ≤ v
      · have u1 : decide (i ≤ v) = true := decide_eq_true g1
        have HD : Hid (¬ Par7 t x s) := Lib.hid (fun q => by
          have q5 := q.2.2.2.2 i (List.mem_of_getElem? HI2.out)
          have q6 := ((HU7.out i).1 q5).1
          cases k with
          | zero => have := HV0.out rfl; omega
          | succ k0 => have := q.2.2.2.1 k0 v i (HVP.out k0 rfl) HI2.out; omega)
        clear g1 hh HV0 HVP HRI HUN
        go_wp2_with fail
        go_ret
        exact ⟨⟨false, rfl, ⟨nofun, fun q => absurd q HD.out⟩⟩, hBw⟩
      have u1 : decide (i ≤ v) = false := decide_eq_false g1
      by_cases g2 : (hi : Int) ≤ i
      · have u2 : decide ((hi : Int) ≤ i) = true := decide_eq_true g2
        have HD := Lib.hid (HNO.out (fun q => by have := ((HU7.out i).1 q).2.1; omega))
        clear g1 g2 hh HV0 HVP HRI HUN
        go_wp2_with fail
        go_ret
        exact ⟨⟨false, rfl, ⟨nofun, fun q => absurd q HD.out⟩⟩, hBw⟩
      have u2 : decide ((hi : Int) ≤ i) = false := decide_eq_false g2
      obtain ⟨j, rfl⟩ : ∃ j : Nat, i = j := ⟨i.toNat, by omega⟩
      have hjN : j < N := by omega
      have u2' : decide (hi ≤ j) = false := decide_eq_false (by omega)
      have u2'' : j < hi := by omega
      obtain ⟨ad, o, V, vm, vd, rfl, ho, hat⟩ := hh.at_ (show 2 * j < n by omega)
      have oc0 := hat.c0
      have HOK := Lib.hid (kd_at ho)
      have i1 : 2 * (j : Int) < (n : Int) := by omega
      have i2 : (0 : Int) ≤ 2 * (j : Int) := by omega
      have e1 : 2 * (j : Int) = ((2 * j : Nat) : Int) := by omega
      have HJ2 : Hid (UnderN (2 * (j : Int).toNat) = UnderN (2 * j)) := Lib.hid (by rw [Int.toNat_natCast])
      obtain ⟨j2, hj2⟩ : ∃ j2, 2 * j = j2 := ⟨_, rfl⟩
      rw [hj2] at oc0 e1 HJ2
      rw [e1] at i1 i2
      have HJ := Lib.hid hj2
      clear ho hat hj2
      by_cases g3 : o.k = 1
      rotate_left
      · have u3 : (o.k != 1) = true := by rw [bne_iff_ne]; exact g3
        have HD := Lib.hid (HNO.out (fun q => by
          have q3 := ((HU7.out _).1 q).2.2.1.2.2
          rw [Int.toNat_natCast, HOK.out] at q3
          exact g3 q3))
        clear g1 g2 g3 hh HV0 HVP HRI HUN
        go_wp2_with fail
        go_ret
        exact ⟨⟨false, rfl, ⟨nofun, fun q => absurd q HD.out⟩⟩, hBw⟩
      have u3 : (o.k != 1) = false := by rw [bne_eq_false_iff_eq]; exact g3
      have HPR : Hid (Pres t (j : Int)) := Lib.hid ⟨by omega, by rw [HLV.out]; omega, by rw [Int.toNat_natCast, HOK.out]; exact g3⟩
      have hj511 : j2 < 511 := by have := HJ.out; omega
      have hvj : v < (j : Int) := by omega
      have hjlo : (lo : Int) ≤ (j : Int) := by omega
      have hjhi : (j : Int) < (hi : Int) := by omega
      clear g1 g2 g3
      go_wp2_with fail
      go_loopw [76] (fun iv' w2 => ∃ z : Nat, z ≤ n ∧ iv' = .int .i64 (z : Int) ∧ Hid (∀ (z' : Nat) (o : TN), z' < z → t[z']? = some o → o.k = 2 → z' ≠ x → UnderN j2 z' → UnderN z' x → (j : Int) ∈ o.un) ∧ Below w0.heap.size w0 w2) (fun i _ => n - (intOf i).toNat)
      case atStart => exact ⟨0, Nat.zero_le _, rfl, Lib.hid (fun z' o hz => by omega), hB⟩
      case round =>
        clear hh hcu oc0
        obtain ⟨z, hz, rfl, HA, hB2⟩ := hrel
        by_cases hzl : z < n
        · obtain ⟨ae, p, P, pm, pd, hae, hp, hap⟩ := (h1.below hB2).at_ hzl
          obtain rfl := Option.some.inj hae
          have HP := Lib.hid hp
          have hpu := hap.un
          have hz511 : z < 511 := by omega
          have H1 := Lib.hid (fun W => under_ok j2 z W hj511 hz511)
          have H2 := Lib.hid (fun W => under_ok z x W hz511 hx511)
          have hB3 := nxa hB2 (.cells #[.int .i64 p.k, .int .i64 p.id, .int .i64 p.enc, .int .i64 p.sig, .int .i64 p.hash, .slice P pm pd] 50)
          have H3 := Lib.hid (in_ok P pm pd p.un (j : Int) _ (hpu.alloc (.cells #[.int .i64 p.k, .int .i64 p.id, .int .i64 p.enc, .int .i64 p.sig, .int .i64 p.hash, .slice P pm pd] 50)))
          obtain ⟨p0, p1, p2, p3, p4, p5, _⟩ := hap
          have HGO : Hid ((p.k = 2 → z ≠ x → UnderN j2 z → UnderN z x → (j : Int) ∈ p.un) → ∀ (z' : Nat) (o : TN), z' < z + 1 → t[z']? = some o → o.k = 2 → z' ≠ x → UnderN j2 z' → UnderN z' x → (j : Int) ∈ o.un) := Lib.hid (fun q z' o h1 h2 => by
            by_cases e : z' = z
            · subst e; rw [HP.out] at h2; obtain rfl := Option.some.inj h2; exact q
            · exact HA.out z' o (by omega) h2)
          clear hp hpu hae
          by_cases q1 : p.k = 2
          rotate_left
          · have y1 : (p.k == 2) = false := by rw [beq_eq_false_iff_ne]; exact q1
            have HA2 := Lib.hid (HGO.out (fun e => absurd e q1))
            clear q1 HA
            go_wp2_with fail
            go_roundw
            case rel => exact ⟨z + 1, by omega, by go_num, HA2, hB3⟩
            case measure => simp [intOf]; omega
          have y1 : (p.k == 2) = true := by rw [beq_iff_eq]; exact q1
          by_cases q2 : z = x
          · have y2 : ((z : Int) != (x : Int)) = false := by rw [bne_eq_false_iff_eq]; omega
            have HA2 := Lib.hid (HGO.out (fun _ e => absurd q2 e))
            clear q1 q2 HA
            go_wp2_with fail
            go_roundw
            case rel => exact ⟨z + 1, by omega, by go_num, HA2, hB3⟩
            case measure => simp [intOf]; omega
          have y2 : ((z : Int) != (x : Int)) = true := by rw [bne_iff_ne]; omega
          by_cases q3 : UnderN j2 z
          rotate_left
          · have HA2 := Lib.hid (HGO.out (fun _ _ e => absurd e q3))
            have h4 := H1.out
            rw [decide_eq_false q3] at h4
            have H4 := Lib.hid h4
            clear q1 q2 q3 HA h4
            go_wp2_with (go_at_call 42; refine (H4.out _).mono ?_; rintro e w' ⟨rfl, rfl⟩)
            go_roundw
            case rel => exact ⟨z + 1, by omega, by go_num, HA2, hB3⟩
            case measure => simp [intOf]; omega
          have h4 := H1.out
          rw [decide_eq_true q3] at h4
          have H4 := Lib.hid h4
          have h5 := H2.out
          by_cases q4 : UnderN z x
          rotate_left
          · have HA2 := Lib.hid (HGO.out (fun _ _ _ e => absurd e q4))
            rw [decide_eq_false q4] at h5
            have H5 := Lib.hid h5
            clear q1 q2 q3 q4 HA h4 h5
            go_wp2_with fail
            refine (H4.out _).mono ?_; rintro e w' ⟨rfl, rfl⟩
            go_wp2_with fail
            refine (H5.out _).mono ?_; rintro e w' ⟨rfl, rfl⟩
            go_wp2_with fail
            go_roundw
            case rel => exact ⟨z + 1, by omega, by go_num, HA2, hB3⟩
            case measure => simp [intOf]; omega
          rw [decide_eq_true q4] at h5
          have H5 := Lib.hid h5
          have h6 := H3.out
          by_cases q5 : (j : Int) ∈ p.un
          · have HA2 := Lib.hid (HGO.out (fun _ _ _ _ => q5))
            rw [decide_eq_true q5] at h6
            have H6 := Lib.hid h6
            clear q1 q2 q3 q4 q5 HA h4 h5 h6
            go_wp2_with fail
            refine (H4.out _).mono ?_; rintro e w' ⟨rfl, rfl⟩
            go_wp2_with fail
            refine (H5.out _).mono ?_; rintro e w' ⟨rfl, rfl⟩
            go_wp2_with (go_at_call 44; refine H6.out.mono ?_; rintro e w' ⟨rfl, rfl⟩)
            go_roundw
            case rel => exact ⟨z + 1, by omega, by go_num, HA2, hB3⟩
            case measure => simp [intOf]; omega
          · have HD := Lib.hid (HNO.out (fun q => q5 (((HU7.out _).1 q).2.2.2 z p HP.out q1 q2 (by rw [HJ2.out]; exact q3) q4)))
            rw [decide_eq_false q5] at h6
            have H6 := Lib.hid h6
            have hBB := hB0.trans (hB3.mono (by exact hB0.size))
            clear q1 q2 q3 q4 q5 HA h4 h5 h6
            go_wp2_with fail
            refine (H4.out _).mono ?_; rintro e w' ⟨rfl, rfl⟩
            go_wp2_with fail
            refine (H5.out _).mono ?_; rintro e w' ⟨rfl, rfl⟩
            go_wp2_with (go_at_call 44; refine H6.out.mono ?_; rintro e w' ⟨rfl, rfl⟩)
            go_ret
            exact ⟨⟨false, rfl, ⟨nofun, fun q => absurd q HD.out⟩⟩, hBB⟩
        · obtain rfl : z = n := by omega
          have HUJ : Hid (Un7 t x (j : Int)) := Lib.hid ((HU7.out _).2 ⟨hjlo, hjhi, HPR.out, fun z' o h2 => by
            rw [HJ2.out]
            exact HA.out z' o (by have := (List.getElem?_eq_some_iff.1 h2).1; rw [HLT.out] at this; exact this) h2⟩)
          have HUN2 : Hid (∀ i ∈ s.un.take (k + 1), Un7 t x i) := Lib.hid (fun u hu => by
            rw [List.take_add_one, HI2.out, Option.toList_some] at hu
            rcases List.mem_append.1 hu with hu | hu
            · exact HUN.out u hu
            · simp at hu; subst hu; exact HUJ.out)
          have HRI2 : Hid (∀ (i : Nat) (a b : Int), i + 1 < k + 1 → s.un[i]? = some a → s.un[i + 1]? = some b → a < b) := Lib.hid (fun i a b hi h1 h2 => by
            by_cases e : i + 1 = k
            · subst e
              have e1 := HVP.out i rfl
              rw [h1] at e1; obtain rfl := Option.some.inj e1
              rw [HI2.out] at h2; obtain rfl := Option.some.inj h2
              exact hvj
            · exact HRI.out i a b (by omega) h1 h2)
          have HVP2 : Hid (∀ q, k + 1 = q + 1 → s.un[q]? = some (j : Int)) := Lib.hid (by
            intro q hq
            obtain rfl : q = k := by omega
            exact HI2.out)
          have HV02 : Hid (k + 1 = 0 → (j : Int) = (lo : Int) - 1) := Lib.hid (fun q => by omega)
          clear HA HUN HRI HVP HV0
          go_wp2_with fail
          go_roundw
          case rel => exact ⟨k + 1, (j : Int), by omega, by go_num, rfl, by omega, by omega, HV02, HVP2, HRI2, HUN2, hB2⟩
          case measure => simp [intOf]; omega
    · obtain rfl : k = m := by omega
      have HALL : Hid (Par7 t x s) := Lib.hid ⟨HHD.out.1, HHD.out.2.1, HHD.out.2.2, fun i a b h1 h2 => HRI.out i a b (by have := (List.getElem?_eq_some_iff.1 h2).1; rw [HLU.out] at this; exact this) h1 h2, fun i hi => HUN.out i (by rw [← HLU.out, List.take_length]; exact hi)⟩
      have hBB := hB0.trans (hB.mono hB0.size)
      clear HV0 HVP HRI HUN
      go_wp2_with fail
      go_ret
      exact ⟨⟨true, rfl, ⟨fun _ => HALL.out, fun _ => rfl⟩⟩, hBB⟩
end Go.Proofs.YtieeinppoiihpaaDoor
