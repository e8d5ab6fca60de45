/- The walk of the law ResolveAlone. -/
import Derived.Test.YtieeinppoiihpaaDoorRLive
namespace Go.Proofs.YtieeinppoiihpaaDoor
open Go.RowKit

theorem keep_next {p : Int → Bool} {l : List Int} {j : Nat} {y : Int} (h : l[j]? = some y) (hp : p y = false) :
    (keepL p l)[(keepL p (l.take j)).length]? = some y := by
  have e : l = l.take j ++ y :: l.drop (j + 1) := by
    obtain ⟨hj, hy⟩ := List.getElem?_eq_some_iff.1 h
    rw [← hy, ← List.drop_eq_getElem_cons hj, List.take_append_drop]
  have e2 : keepL p l = keepL p (l.take j) ++ (y :: keepL p (l.drop (j + 1))) := by
    conv => lhs; rw [e]
    unfold keepL
    rw [List.filter_append, List.filter_cons, if_pos (by simp [hp])]
  rw [e2, List.getElem?_append_right (Nat.le_refl _), Nat.sub_self]; rfl
theorem Sl.trim {w : World} {A : Option Addr} {n c : Nat} {l : List Int} (h : Sl w A n c (iv l)) {k : Nat} (hk : k ≤ n) : Sl w A k c (iv (l.take k)) := by
  have hl := h.len
  rw [iv_length] at hl
  refine ⟨by rw [iv_length, List.length_take]; omega, by have := h.cap; omega, h.top, ?_⟩
  rcases h.lies with e | ⟨ad, e, hc⟩
  · refine .inl ?_
    have : l = [] := by simpa [iv] using e
    rw [this]; simp [iv]
  · refine .inr ⟨ad, e, fun q v hq => hc q v ?_⟩
    have hqk : q < k := by have := (List.getElem?_eq_some_iff.1 hq).1; rw [iv_length, List.length_take] at this; omega
    rw [← hq]
    unfold iv
    rw [List.getElem?_map, List.getElem?_map, List.getElem?_take_of_lt hqk]
theorem few_un {t : List TN} (h : Few t) : ∀ s ∈ t, s.un.length ≤ 1000 := fun s hs => by have := h.2 s hs; omega
set_option maxRecDepth 100000 in
set_option maxHeartbeats 8000000 in
theorem aloneWalk (A : Option Addr) (n c : Nat) (t : List TN) (x : Int) (B : Option Addr) (m d : Nat) (zs : List Int) (w : World) (h : Ts w A n c t) (hwf : Hid (∀ s ∈ t, TWf s)) (hx : -9223372036854775808 ≤ x ∧ x ≤ 9223372036854775807) (hz : Sl w B m d (iv zs)) (hT : Tab w) :
    Calls Tryd.prog 9 #[.slice A n c, .int .i64 x, .slice B m d] w fun e w' => e = .returned (.bool true) ∧ Below w.heap.size w w' := by
  have HLV := Lib.hid (live_ok w hT)
  by_cases hfew : Few t
  rotate_left
  · have HF := Lib.hid (fun W hW => few_ok A n c t W hW)
    rw [decide_eq_false hfew] at HF
    clear hfew hx hz
    go_enter Tryd.func9, Tryd.ntmps9
    go_wp2_with fail
    refine HLV.out.mono ?_; rintro e w1 ⟨rfl, hB1⟩
    have h1 := h.below hB1
    go_wp2_with fail
    refine (HF.out _ h1).mono ?_; rintro e w2 ⟨rfl, hB2⟩
    have hB12 := hB1.trans (hB2.mono hB1.size)
    go_wp2_with fail
    go_ret
    exact ⟨rfl, hB12⟩
  have hn140 : n ≤ 140 := by have := hfew.1; rwa [h.len] at this
  have hu := Lib.hid (few_un hfew)
  have HF := Lib.hid (fun W hW => few_ok A n c t W hW)
  rw [decide_eq_true hfew] at HF
  clear hfew
  by_cases hm : m ≤ 100
  rotate_left
  · have t1 : decide ((100 : Int) < (m : Int)) = true := decide_eq_true (by omega)
    clear hm hx hz
    go_enter Tryd.func9, Tryd.ntmps9
    go_wp2_with fail
    refine HLV.out.mono ?_; rintro e w1 ⟨rfl, hB1⟩
    have h1 := h.below hB1
    go_wp2_with fail
    refine (HF.out _ h1).mono ?_; rintro e w2 ⟨rfl, hB2⟩
    have hB12 := hB1.trans (hB2.mono hB1.size)
    go_wp2_with fail
    go_ret
    exact ⟨rfl, hB12⟩
  have t1 : decide ((100 : Int) < (m : Int)) = false := decide_eq_false (by omega)
  by_cases hhas : HasT t x
  rotate_left
  · have HR := Lib.hid (fun W hW hT => res_no A n c t x W hW (by omega) hwf hu hT hhas)
    clear hhas hx hz
    go_enter Tryd.func9, Tryd.ntmps9
    go_wp2_with fail
    refine HLV.out.mono ?_; rintro e w1 ⟨rfl, hB1⟩
    have h1 := h.below hB1
    go_wp2_with fail
    refine (HF.out _ h1).mono ?_; rintro e w2 ⟨rfl, hB2⟩
    have hB12 := hB1.trans (hB2.mono hB1.size)
    have h2 := h.below hB12
    have hT2 := hT.below' hB12
    go_wp2_with fail
    refine (HR.out _ h2 hT2).mono ?_; rintro e w3 ⟨rfl, hB3⟩
    have hB13 := hB12.trans (hB3.mono hB12.size)
    go_wp2_with fail
    go_ret
    exact ⟨rfl, hB13⟩
  obtain ⟨x, rfl⟩ : ∃ x' : Nat, x = x' := ⟨x.toNat, by have := hhas.2.1; omega⟩
  have hx511 : x < 511 := by have := hhas.ins.lt; rwa [Int.toNat_natCast] at this
  have HR := Lib.hid (fun W hW hT => res_yes A n c t x W hW (by omega) hwf hu hT hhas)
  have hND : Hid (resN t x).Nodup := Lib.hid (res_nodup hhas.1 (lev x) x (by have := hhas.ins; rwa [Int.toNat_natCast] at this) rfl)
  have hIN : Hid (∀ y ∈ resN t x, InRes t x y) := Lib.hid (res_inN hhas)
  obtain ⟨r, hr⟩ : ∃ r, resN t x = r := ⟨_, rfl⟩
  rw [hr] at HR hND hIN
  have hlen := Lib.hid h.len
  have hrl : r.length ≤ 1000000 := by
    rw [← hr]
    have h1 := res_len hu.out (lev x) x
    have h8 := lev_le hx511
    have hp : 2 ^ lev x ≤ 2 ^ 8 := Nat.pow_le_pow_right (by omega) h8
    unfold resN; omega
  clear hhas hx hr hm
  go_enter Tryd.func9, Tryd.ntmps9
  go_wp2_with fail
  refine HLV.out.mono ?_; rintro e w1 ⟨rfl, hB1⟩
  have h1 := h.below hB1
  go_wp2_with fail
  refine (HF.out _ h1).mono ?_; rintro e w2 ⟨rfl, hB2⟩
  have hB12 := hB1.trans (hB2.mono hB1.size)
  have h2 := h.below hB12
  have hT2 := hT.below' hB12
  go_wp2_with fail
  refine (HR.out _ h2 hT2).mono ?_; rintro e w3 ⟨R, rd, rfl, hO, hB3⟩
  have hB13 := hB12.trans (hB3.mono hB12.size)
  have hS := hO.sl
  have h3 := h.below hB13
  have hz3 := hz.below hB13
  have HSL := Lib.hid hS
  have HZ3 := Lib.hid hz3
  have HRL := Lib.hid hrl
  obtain ⟨q, hq⟩ : ∃ q, r.length = q := ⟨_, rfl⟩
  have HQ := Lib.hid hq
  rw [hq] at hS hrl ⊢
  clear h1 hB1 hB2 h2 hT2 hB3 hO hB12 h hz hT hz3 hq
  go_wp2_with fail
  go_loop [42] (fun i => ∃ k : Nat, k ≤ q ∧ i = .int .i64 (k : Int)) (fun i => q - (intOf i).toNat)
  case atStart => exact ⟨0, Nat.zero_le _, rfl⟩
  case round =>
    obtain ⟨k, hk, rfl⟩ := hrel
    by_cases hlt : k < q
    · obtain ⟨au, hlu, rfl, hcu⟩ := hS.int hlt
      obtain ⟨y, hy⟩ : ∃ y, r[k]'hlu = y := ⟨_, rfl⟩
      have hy2 : r[k]? = some y := by rw [List.getElem?_eq_getElem hlu, hy]
      rw [hy] at hcu
      obtain ⟨z, rfl, hzl, hzk, hzu⟩ := hIN.out y (List.mem_of_getElem? hy2)
      have hzn : z < n := by rw [hlen.out] at hzl; exact hzl
      obtain ⟨ad, s, U, um, ud, hA, hks, hat⟩ := h3.at_ hzn
      subst hA
      have c0 := hat.c0
      have e1 := kd_at hks
      have tk : (s.k == 0) = false := by rw [beq_eq_false_iff_ne, ← e1]; exact hzk
      have HIN2 := in_ok (some au) k rd (r.take k) (z : Int) w3 (hS.trim (by omega))
      have hnm : (z : Int) ∉ r.take k := by
        intro hm
        obtain ⟨j, hj, e⟩ := List.getElem_of_mem hm
        rw [List.length_take] at hj
        rw [List.getElem_take] at e
        exact List.pairwise_iff_getElem.1 hND.out j k (by omega) hlu (by omega) (e.trans hy.symm)
      rw [decide_eq_false hnm] at HIN2
      have HI := Lib.hid HIN2
      have HUN := under_ok z x w3 (by omega) hx511
      rw [decide_eq_true hzu] at HUN
      have HU := Lib.hid HUN
      have i1 : (z : Int) < (n : Int) := by omega
      have i2 : decide ((n : Int) ≤ (z : Int)) = false := decide_eq_false (by omega)
      have i2' : decide (n ≤ z) = false := decide_eq_false (by omega)
      have i3 : (k : Int) ≤ (rd : Int) := by have := hS.cap; omega
      clear hy hy2 hzl hzk hzu hks hat e1 HIN2 HUN hnm
      go_wp2_with (first
        | (go_at_call 44; refine HI.out.mono ?_; rintro e w' ⟨rfl, rfl⟩)
        | (go_at_call 42; refine HU.out.mono ?_; rintro e w' ⟨rfl, rfl⟩))
      go_round
      case rel => exact ⟨k + 1, by omega, by go_num⟩
      case measure => simp [intOf]; omega
    · obtain rfl : k = q := by omega
      have hy6 : Hid (∀ x ∈ r, 0 ≤ x ∧ x ≤ 1000000) := Lib.hid (fun y hy => by
        obtain ⟨z, rfl, hz, _⟩ := hIN.out y hy
        rw [hlen.out] at hz; omega)
      have HE := Lib.hid (except_ok R k rd r B m d zs w3 hS HZ3.out hrl hy6)
      have HP : Hid (∀ y, (fun x => decide (x % 2 = 0 ∧ x / 2 ∈ zs)) y = decide (y % 2 = 0 ∧ y / 2 ∈ zs)) := Lib.hid (fun y => rfl)
      obtain ⟨p, hp⟩ : ∃ p : Int → Bool, (fun x => decide (x % 2 = 0 ∧ x / 2 ∈ zs)) = p := ⟨_, rfl⟩
      rw [hp] at HE HP
      obtain ⟨M, hM⟩ : ∃ M, keepL p r = M := ⟨_, rfl⟩
      rw [hM] at HE
      have HMK := Lib.hid hM
      have HY6 := hy6
      clear hp hM hy6 h3
      go_wp2_with fail
      refine HE.out.mono ?_; rintro e w5 ⟨E5, ed, rfl, hS5, hB5⟩
      have hB15 := hB13.trans (hB5.mono hB13.size)
      have hSr := HSL.out.below hB5
      have hZr := HZ3.out.below hB5
      rw [HQ.out] at hSr
      obtain ⟨L, hL⟩ : ∃ L, M.length = L := ⟨_, rfl⟩
      have HLL := Lib.hid hL
      rw [hL] at hS5 ⊢
      have hLr : L ≤ k := by rw [← hL, ← HMK.out, ← HQ.out]; exact List.length_filter_le _ _
      clear hL hB5 hS
      go_wp2_with fail
      go_loop [13, 82] (fun kv i => ∃ j K : Nat, j ≤ k ∧ i = .int .i64 (j : Int) ∧ kv = .int .i64 (K : Int) ∧ Hid (K = (keepL p (r.take j)).length)) (fun _ i => k - (intOf i).toNat)
      case atStart => exact ⟨0, 0, Nat.zero_le _, rfl, rfl, Lib.hid (by simp [keepL])⟩
      case round =>
        obtain ⟨j, K, hj, rfl, rfl, HK⟩ := hrel
        by_cases hlt2 : j < k
        · obtain ⟨au, hlu, rfl, hcu⟩ := hSr.int hlt2
          obtain ⟨y, hy⟩ : ∃ y, r[j]'hlu = y := ⟨_, rfl⟩
          have hy2 : r[j]? = some y := by rw [List.getElem?_eq_getElem hlu, hy]
          rw [hy] at hcu
          have hyb := HY6.out y (List.mem_of_getElem? hy2)
          have HKT := Lib.hid (keep_take (p := p) hy2)
          have HKN := Lib.hid (keep_next (p := p) hy2)
          have HPY := HP.out y
          have em : (y % 2 == 0) = decide (y % 2 = 0) := by rw [Bool.eq_iff_iff]; simp
          have HINZ := in_ok B m d zs (y / 2) w5 hZr
          clear hy hy2
          by_cases hpy : p y = true
          · have hpy2 := hpy
            rw [HPY, decide_eq_true_iff] at hpy2
            rw [decide_eq_true hpy2.1] at em
            rw [decide_eq_true hpy2.2] at HINZ
            have HZI := Lib.hid HINZ
            have HK2 : Hid (K = (keepL p (r.take (j + 1))).length) := Lib.hid (by rw [HKT.out, if_pos hpy, List.append_nil]; exact HK.out)
            clear hpy hpy2 HINZ HPY HKT HKN HK
            go_wp2_with (go_at_call 44; refine HZI.out.mono ?_; rintro e w' ⟨rfl, rfl⟩)
            go_round
            case rel => exact ⟨j + 1, K, by omega, by go_num, rfl, HK2⟩
            case measure => simp [intOf]; omega
          · have hpf : p y = false := by cases e : p y; rfl; exact absurd e hpy
            have hMK : M[K]? = some y := by rw [← HMK.out, HK.out]; exact HKN.out hpf
            have hKL : K < L := by rw [← HLL.out]; exact (List.getElem?_eq_some_iff.1 hMK).1
            obtain ⟨a5, hl5, rfl, hc5⟩ := hS5.int hKL
            have e5 : M[K]'hl5 = y := by rw [List.getElem?_eq_getElem hl5] at hMK; exact Option.some.inj hMK
            rw [e5] at hc5
            have i1 : (K : Int) < (L : Int) := by omega
            have i2 : decide ((L : Int) ≤ (K : Int)) = false := decide_eq_false (by omega)
            have i2' : decide (L ≤ K) = false := decide_eq_false (by omega)
            have i3 : (y != y) = false := by simp
            have HK2 : Hid (K + 1 = (keepL p (r.take (j + 1))).length) := Lib.hid (by rw [HKT.out, hpf, if_neg (by simp), List.length_append, ← HK.out]; rfl)
            rw [HPY, decide_eq_false_iff_not] at hpf
            by_cases he : y % 2 = 0
            · rw [decide_eq_true he] at em
              have hni : y / 2 ∉ zs := fun q => hpf ⟨he, q⟩
              rw [decide_eq_false hni] at HINZ
              have HZI := Lib.hid HINZ
              clear hpy hpf HINZ HPY HKT HKN HK hMK e5 he hni
              go_wp2_with (go_at_call 44; refine HZI.out.mono ?_; rintro e w' ⟨rfl, rfl⟩)
              go_round
              case rel => exact ⟨j + 1, K + 1, by omega, by go_num, by go_num, HK2⟩
              case measure => simp [intOf]; omega
            · rw [decide_eq_false he] at em
              clear hpy hpf HINZ HPY HKT HKN HK hMK e5 he
              go_wp2_with fail
              go_round
              case rel => exact ⟨j + 1, K + 1, by omega, by go_num, by go_num, HK2⟩
              case measure => simp [intOf]; omega
        · obtain rfl : j = k := by omega
          have HE2 : Hid (K = L) := Lib.hid (by rw [HK.out, ← HLL.out, ← HMK.out, ← HQ.out, List.take_length])
          obtain rfl := HE2.out
          go_wp2_with fail
          go_ret
          exact ⟨rfl, hB15⟩
end Go.Proofs.YtieeinppoiihpaaDoor
