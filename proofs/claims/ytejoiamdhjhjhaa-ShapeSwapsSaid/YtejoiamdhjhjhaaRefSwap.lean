/- The walks of the reference's Swap and Inverse. -/
import Derived.Test.YtejoiamdhjhjhaaRefPerm
namespace Go.Proofs.Ytejoiamdhjhjhaa
open Go.RowKit

theorem inr_act {p : List Int} {l : List St} : (∀ s ∈ l, InR p s) ↔ ∀ x ∈ actL l, 0 ≤ x ∧ x < (p.length : Int) := by
  constructor
  · intro h x hx
    obtain ⟨s, hs, hxs⟩ := (mem_act l x).1 hx
    exact inr_S h s hs x hxs
  · intro h s hs i hi
    exact h _ ((mem_act l _).2 ⟨s, hs, (mem_who s _).2 ⟨i, hi, rfl⟩⟩)
theorem pF_sl {w : World} {B : Option Addr} {m d : Nat} {p : List Int} (k : Sl w B m d (iv p)) {x : Int} (h : 0 ≤ x ∧ x < (p.length : Int)) : ∃ (y : Nat) (ad : Addr), x = (y : Int) ∧ y < m ∧ B = some ad ∧ w.cell? (ad.add y) = some (.int .i64 (pF p x)) := by
  have hl := k.len
  rw [iv_length] at hl
  obtain ⟨ad, h1, rfl, hc⟩ := k.int (k := x.toNat) (by omega)
  refine ⟨x.toNat, ad, by omega, by omega, rfl, ?_⟩
  rw [hc]
  have := pF_get h
  rw [List.getElem?_eq_getElem h1] at this
  injection this with this
  rw [this]
theorem plc_inv (p : List Int) : rgi p.length (fun j => plc p (j : Int)) = invL p := by
  unfold invL
  refine rgi_congr _ _ _ fun j hj => ?_
  unfold plc invK
  rw [List.take_length]
theorem rgi_snoc (n : Nat) (f : Nat → Int) : rgi (n + 1) f = rgi n f ++ [f n] := by simp [rgi, List.range_succ]
theorem rinverse_ok (A : Option Addr) (n c : Nat) (p : List Int) (w : World) (h : Sl w A n c (iv p)) (hn : n ≤ 1000) :
    Calls Try.prog 20 #[.slice A n c] w fun e w' => InvPost2 w p n e w' := by
  have HL : Hid (p.length = n) := by have := h.len; rwa [iv_length] at this
  have H1 := Lib.hid (perm_ok A n c p w h hn)
  go_enter Try.func20, Try.ntmps20
  go_wp2_with fail
  refine H1.out.mono ?_
  rintro e w1 ⟨⟨b, rfl, hb⟩, hB⟩
  have HB := Lib.hid hb
  clear H1 hb
  cases b
  case false =>
    have HE : Hid (¬ IsP p) := Lib.hid (fun hp => by have := HB.out.2 hp; cases this)
    go_wp2_with fail
    go_ret2
    exact .inr ⟨HE.out, rfl, hB⟩
  have HE : Hid (IsP p) := Lib.hid (HB.out.1 rfl)
  clear HB
  go_wp2_with fail
  go_loopw [4, 11] (fun v i wr => ∃ (k : Nat) (A' : Option Addr) (c' : Nat), k ≤ n ∧ i = .int .i64 (k : Int) ∧ v = .slice A' k c' ∧ Ow wr w.heap.size 3 1 A' k c' (iv (rgi k (fun j => plc p (j : Int)))) ∧ Below w.heap.size w wr) (fun _ i _ => n - (intOf i).toNat)
  case atStart => exact ⟨0, none, 0, Nat.zero_le _, rfl, rfl, Ow.nil _ _ _ _, hB⟩
  case round =>
    clear hB
    obtain ⟨k, A', c', hk, rfl, rfl, hO, hB⟩ := hrel
    by_cases hlt : k < n
    · have hS := h.below hB
      have HR : Hid (rgi (k + 1) (fun j => plc p (j : Int)) = rgi k (fun j => plc p (j : Int)) ++ [plc p (k : Int)]) := Lib.hid (rgi_snoc k _)
      obtain ⟨z, hz⟩ : ∃ z, plc p (k : Int) = z := ⟨_, rfl⟩
      rw [hz] at HR
      have HPl := Lib.hid (fun W hW => place_ok A n c p (k : Int) W hW)
      rw [hz] at HPl
      clear hz
      go_wp2_with fail
      refine (HPl.out _ hS).mono ?_
      rintro e w3 ⟨rfl, rfl⟩
      clear hS HPl
      go_wp2_with (at_builtin; refine wpList_app (o := ⟨some 19, _, _, _, _, _⟩) E25 rfl rfl rfl (hO.alloc _) rfl (lies_new wr _ 3) rfl (by simp [Value.oneCell']) (by unfold maxLen; omega) (by omega) (Nat.le_trans hB.size (by simp)) ?_; intro A4 c4 w4 hO4 hG4 hB4)
      go_roundw
      case rel => exact ⟨k + 1, A4, c4, by omega, by go_num, rfl, by rw [HR.out, iv_snoc]; exact hO4, (hB.alloc hB.size _).trans (hB4.mono (Nat.le_refl _))⟩
      case measure => simp [intOf]; omega
    · obtain rfl : k = n := by omega
      have HI : Hid (rgi k (fun j => plc p (j : Int)) = invL p) := Lib.hid (by rw [← HL.out]; exact plc_inv p)
      rw [HI.out] at hO
      go_wp2_with fail
      go_ret2
      exact .inl ⟨HE.out, _, _, rfl, hO, hB⟩
set_option maxRecDepth 100000 in
set_option maxHeartbeats 4000000 in
theorem rswap_ok (A : Option Addr) (n c : Nat) (l : List St) (B : Option Addr) (m d : Nat) (p : List Int) (w : World) (h : Ss w A n c l) (k : Sl w B m d (iv p)) (hn : n ≤ 1000) (hm : m ≤ 1000) :
    Calls Try.prog 18 #[.slice A n c, .slice B m d] w fun e w' => SwPost w p l n e w' := by
  have HL := Lib.hid h.len
  have HP : Hid (p.length = m) := by have := k.len; rwa [iv_length] at this
  have H1 := Lib.hid (perm_ok B m d p w k hm)
  have H2 := Lib.hid (fun W hW => ract_ok A n c l W hW hn)
  go_enter Try.func18, Try.ntmps18
  go_wp2_with fail
  refine H1.out.mono ?_
  rintro e w1 ⟨⟨b, rfl, hb⟩, hB1⟩
  have HB := Lib.hid hb
  clear H1 hb
  cases b
  case false =>
    have HE : Hid (¬ IsP p) := Lib.hid (fun hp => by have := HB.out.2 hp; cases this)
    go_wp2_with fail
    go_ret2
    exact .inr ⟨fun q => HE.out q.1, rfl, hB1⟩
  have HE : Hid (IsP p) := Lib.hid (HB.out.1 rfl)
  clear HB
  have h1 := h.below hB1
  have HK := Lib.hid k
  have HS0 := Lib.hid h
  clear h k
  go_wp2_with fail
  refine (H2.out _ h1).mono ?_
  rintro e w2 ⟨A2, c2, rfl, hO2, hB2⟩
  have hB := nx hB1 hB2
  have hS := hO2.sl
  have hal := act_len l
  rw [HL.out] at hal
  obtain ⟨a, ha⟩ : ∃ a, actL l = a := ⟨_, rfl⟩
  rw [ha] at hS hal ⊢
  obtain ⟨N, hN⟩ : ∃ N, a.length = N := ⟨_, rfl⟩
  rw [hN] at hS hal ⊢
  have HA := Lib.hid ha
  have HN := Lib.hid hN
  have hct := hS.top
  have hcc := hS.cap
  unfold maxLen at hct
  clear ha hN h1 hO2 hB1 hB2 H2
  go_wp2_with fail
  go_loop [19] (fun i => ∃ q : Nat, q ≤ N ∧ i = .int .i64 (q : Int) ∧ Hid (∀ (j : Nat) (x : Int), j < q → a[j]? = some x → 0 ≤ x ∧ x < (p.length : Int))) (fun i => N - (intOf i).toNat)
  case atStart => exact ⟨0, Nat.zero_le _, rfl, Lib.hid (fun j x hj => absurd hj (Nat.not_lt_zero _))⟩
  case round =>
    obtain ⟨q, hq, rfl, HI⟩ := hrel
    by_cases hlt : q < N
    · obtain ⟨ad, hl, rfl, hc⟩ := hS.int hlt
      obtain ⟨x, hx⟩ : ∃ x, a[q]'hl = x := ⟨_, rfl⟩
      have hx2 : a[q]? = some x := by rw [List.getElem?_eq_getElem hl, hx]
      rw [hx] at hc
      have HX := Lib.hid hx2
      have HNO : Hid (¬ (0 ≤ x ∧ x < (m : Int)) → ¬ (IsP p ∧ ∀ s ∈ l, InR p s)) := Lib.hid (fun hne hh => hne (by
        rw [← HP.out]
        exact inr_act.1 hh.2 x (by rw [HA.out]; exact List.mem_of_getElem? HX.out)))
      clear hx hx2
      by_cases hneg : x < 0
      · have t1 : decide (x < 0) = true := decide_eq_true hneg
        have HNO2 := Lib.hid (HNO.out (by omega))
        clear HNO
        go_wp2_with fail
        go_ret2
        exact .inr ⟨HNO2.out, rfl, hB⟩
      · have t1 : decide (x < 0) = false := decide_eq_false hneg
        by_cases hge : (m : Int) ≤ x
        · have t2 : decide ((m : Int) ≤ x) = true := decide_eq_true hge
          have HNO2 := Lib.hid (HNO.out (by omega))
          clear HNO
          go_wp2_with fail
          go_ret2
          exact .inr ⟨HNO2.out, rfl, hB⟩
        · have t2 : decide ((m : Int) ≤ x) = false := decide_eq_false hge
          have HI2 : Hid (∀ (j : Nat) (x : Int), j < q + 1 → a[j]? = some x → 0 ≤ x ∧ x < (p.length : Int)) := Lib.hid (fun j y hj hy => by
            rcases Nat.lt_or_eq_of_le (Nat.le_of_lt_succ hj) with e | e
            · exact HI.out j y e hy
            · subst e
              rw [HX.out] at hy; injection hy with hy; subst hy
              rw [HP.out]; omega)
          clear HNO HI
          go_wp2_with fail
          go_round
          case rel => exact ⟨q + 1, by omega, by go_num, HI2⟩
          case measure => simp [intOf]; omega
    · obtain rfl : q = N := by omega
      have HR : Hid (∀ s ∈ l, InR p s) := Lib.hid (inr_act.2 (fun x hx => by
        rw [HA.out] at hx
        obtain ⟨j, hj⟩ := List.getElem?_of_mem hx
        exact HI.out j x (by have := (List.getElem?_eq_some_iff.1 hj).1; rw [HN.out] at this; exact this) hj))
      clear HI hS hct hcc
      go_wp2_with fail
      go_loopw [8, 34] (fun v i wr => ∃ (r : Nat) (A' : Option Addr) (c' : Nat), r ≤ n ∧ i = .int .i64 (r : Int) ∧ v = .slice A' r c' ∧ Ow wr w.heap.size 31 3 A' r c' (svs ((l.take r).map (swF p))) ∧ Below w.heap.size w wr) (fun _ i _ => n - (intOf i).toNat)
      case atStart => exact ⟨0, none, 0, Nat.zero_le _, rfl, rfl, Ow.nil _ _ _ _, hB⟩
      case round =>
        clear hB
        obtain ⟨r, A', c', hk, rfl, rfl, hO, hB⟩ := hrel
        by_cases hlt : r < n
        · obtain ⟨ad, s, rfl, h1, h2, h3, h4⟩ := (HS0.out.below hB).at_ hlt
          have HT : Hid (svs ((l.take (r + 1)).map (swF p)) = svs ((l.take r).map (swF p)) ++ svs [swF p s]) := Lib.hid (by
            rw [List.take_add_one, h1, Option.toList_some, List.map_append, svs_append]; rfl)
          have HRS : Hid (InR p s) := Lib.hid (HR.out s (List.mem_of_getElem? h1))
          have hb := B3.new wr s
          have q0 := hb.c0; have q1 := hb.c1; have q2 := hb.c2
          have hw1 : Below wr.heap.size wr (wr.alloc (.cells #[.int .i64 s.d, .int .i64 s.who, .int .i64 s.of] 31)) := nxa (Below.refl _ wr) _
          go_wp2_with fail
          refine (names_ok s _).mono ?_
          rintro e w3 ⟨rfl, hB2⟩
          have hb2 := hb.below hB2 hb.lt
          have hw3 := nx hw1 hB2
          have hk3 := HK.out.below (nx hB hw3)
          obtain ⟨gb, hgb⟩ : ∃ g, wr.heap.size = g := ⟨_, rfl⟩
          have hle : wr.heap.size ≤ gb := by omega
          rw [hgb] at hb2 ⊢
          obtain ⟨t, ht⟩ : ∃ t, swF p s = t := ⟨_, rfl⟩
          rw [ht] at HT
          clear h1 h2 h3 h4 hb q0 q1 q2 hw1 hB2 hgb
          rcases sw_eq p s with ⟨hn1, _, hE⟩ | ⟨hn2, _, hE⟩ | ⟨hn0, hE⟩
          · have e1 : nm1 s.d = true := by rw [nm1_of hn1]; rfl
            have e2 : nm2 s.d = false := by rw [nm2_of hn1]; rfl
            rw [e1, e2]
            obtain ⟨y, ap, hy, hym, rfl, hyc⟩ := pF_sl hk3 (HRS.out 1 (by rw [hn1]; simp))
            replace hy : s.who = (y : Int) := hy
            replace hyc : w3.cell? (ap.add y) = some (.int .i64 (pF p s.who)) := hyc
            have p1 := hb2.c1
            have f1 := hb2.fz 1
            obtain ⟨z, hz⟩ : ∃ z, pF p s.who = z := ⟨_, rfl⟩
            rw [hz] at hyc hE
            rw [hy] at p1
            have d3 := hb2.put (i := 1) (.inl rfl) z
            have hst : setF s 1 z = t := by rw [← ht, hE]; rfl
            rw [hst] at d3
            have hwX := hw3.setCell (p := ⟨gb, 1, none⟩) hle (.int .i64 z)
            have iy : (y : Int) < (m : Int) := by omega
            have q0 := d3.c0; have q1 := d3.c1; have q2 := d3.c2
            have hOX := hO.below hwX
            have hBX := nx hB hwX
            have hszX := hBX.size
            clear hst hE ht hz hy hn1 e1 e2 hO hB hw3 hk3 hb2
            go_wp2_with (at_builtin; refine wpList_app (o := ⟨some 60, _, _, _, _, _⟩) E22 rfl rfl rfl (hOX.alloc _) rfl (lies_sv _ t _ (by simp)) rfl (svs_one [t]) (by unfold maxLen; omega) (by omega) (Nat.le_trans hszX (by simp)) ?_; intro A8 c8 w8 hO8 hG8 hB8)
            go_roundw
            case rel => exact ⟨r + 1, A8, c8, by omega, by go_num, rfl, by rw [HT.out]; exact hO8, (hBX.alloc hBX.size _).trans (hB8.mono (Nat.le_refl _))⟩
            case measure => simp [intOf]; omega
          · have e1 : nm1 s.d = true := by rw [nm1_of hn2]; rfl
            have e2 : nm2 s.d = true := by rw [nm2_of hn2]; rfl
            rw [e1, e2]
            obtain ⟨y, ap, hy, hym, rfl, hyc⟩ := pF_sl hk3 (HRS.out 1 (by rw [hn2]; simp))
            replace hy : s.who = (y : Int) := hy
            replace hyc : w3.cell? (ap.add y) = some (.int .i64 (pF p s.who)) := hyc
            have p1 := hb2.c1
            have f1 := hb2.fz 1
            obtain ⟨z, hz⟩ : ∃ z, pF p s.who = z := ⟨_, rfl⟩
            rw [hz] at hyc hE
            rw [hy] at p1
            have d2 := hb2.put (i := 1) (.inl rfl) z
            have hwY := hw3.setCell (p := ⟨gb, 1, none⟩) hle (.int .i64 z)
            have iy : (y : Int) < (m : Int) := by omega
            have hk4 := HK.out.below (nx hB hwY)
            obtain ⟨y2, ap2, hy2, hym2, hap, hyc2⟩ := pF_sl hk4 (HRS.out 2 (by rw [hn2]; simp))
            obtain rfl := Option.some.inj hap
            replace hy2 : s.of = (y2 : Int) := hy2
            replace hyc2 : (w3.setCell ⟨gb, 1, none⟩ (.int .i64 z)).cell? (ap.add y2) = some (.int .i64 (pF p s.of)) := hyc2
            have p2 : (w3.setCell ⟨gb, 1, none⟩ (.int .i64 z)).cell? ⟨gb, 2, none⟩ = some (.int .i64 s.of) := d2.c2
            have f2 := d2.fz 2
            obtain ⟨z2, hz2⟩ : ∃ z, pF p s.of = z := ⟨_, rfl⟩
            rw [hz2] at hyc2 hE
            rw [hy2] at p2
            have d3 := d2.put (i := 2) (.inr rfl) z2
            have hst : setF (setF s 1 z) 2 z2 = t := by rw [← ht, hE]; rfl
            rw [hst] at d3
            have hwX := hwY.setCell (p := ⟨gb, 2, none⟩) hle (.int .i64 z2)
            have iy2 : (y2 : Int) < (m : Int) := by omega
            have q0 := d3.c0; have q1 := d3.c1; have q2 := d3.c2
            have hOX := hO.below hwX
            have hBX := nx hB hwX
            have hszX := hBX.size
            clear hst hE ht hz hy hn2 e1 e2 hO hB hw3 hk3 hb2 hk4 hwY d2 hz2 hy2 hap
            go_wp2_with (at_builtin; refine wpList_app (o := ⟨some 60, _, _, _, _, _⟩) E22 rfl rfl rfl (hOX.alloc _) rfl (lies_sv _ t _ (by simp)) rfl (svs_one [t]) (by unfold maxLen; omega) (by omega) (Nat.le_trans hszX (by simp)) ?_; intro A8 c8 w8 hO8 hG8 hB8)
            go_roundw
            case rel => exact ⟨r + 1, A8, c8, by omega, by go_num, rfl, by rw [HT.out]; exact hO8, (hBX.alloc hBX.size _).trans (hB8.mono (Nat.le_refl _))⟩
            case measure => simp [intOf]; omega
          · have e1 : nm1 s.d = false := by rw [nm1_of hn0]; rfl
            have e2 : nm2 s.d = false := by rw [nm2_of hn0]; rfl
            rw [e1, e2]
            have hst : s = t := by rw [← ht, hE]
            have d3 := hb2
            rw [hst] at d3
            have hwX := hw3
            have q0 := d3.c0; have q1 := d3.c1; have q2 := d3.c2
            have hOX := hO.below hwX
            have hBX := nx hB hwX
            have hszX := hBX.size
            clear hst hE ht hn0 e1 e2 hO hB hw3 hk3 hb2
            go_wp2_with (at_builtin; refine wpList_app (o := ⟨some 60, _, _, _, _, _⟩) E22 rfl rfl rfl (hOX.alloc _) rfl (lies_sv _ t _ (by simp)) rfl (svs_one [t]) (by unfold maxLen; omega) (by omega) (Nat.le_trans hszX (by simp)) ?_; intro A8 c8 w8 hO8 hG8 hB8)
            go_roundw
            case rel => exact ⟨r + 1, A8, c8, by omega, by go_num, rfl, by rw [HT.out]; exact hO8, (hBX.alloc hBX.size _).trans (hB8.mono (Nat.le_refl _))⟩
            case measure => simp [intOf]; omega
        · obtain rfl : r = n := by omega
          have hT : l.take r = l := by rw [← HL.out, List.take_length]
          rw [hT] at hO
          have HEE := Lib.hid HE.out
          clear hT
          go_wp2_with fail
          go_ret2
          exact .inl ⟨⟨HE.out, HR.out⟩, _, _, rfl, hO, hB⟩
end Go.Proofs.Ytejoiamdhjhjhaa
