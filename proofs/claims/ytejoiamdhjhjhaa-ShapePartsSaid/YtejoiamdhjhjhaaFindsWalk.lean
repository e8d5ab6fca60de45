/- The walk of the law ShapeFinds. -/
import Derived.Test.YtejoiamdhjhjhaaLive
import Derived.Test.YtejoiamdhjhjhaaFindsP
namespace Go.Proofs.Ytejoiamdhjhjhaa
open Go.RowKit

theorem At3.alloc {w : World} {p : Addr} {s : St} (h : At3 w p s) (o : Obj) : At3 (w.alloc o) p s := h.keep fun q hq => World.cell?_alloc_lt w o q hq
theorem MI.upd {w : World} {b n : Nat} {f : Int → Int} (h : MI w b n f) (hn : n < maxLen) {k z : Int} (hk : Wf k) (hz : Wf z) :
    ∃ w', (Instr.mapUpdate 28 (.map (some b)) (.int .i64 k) (.int .i64 z)).run Try.prog w = .ok () w' ∧ MI w' b (n + 1) (fun j => if j = k then z else f j) ∧ w.grownBy w' (some b) := by
  obtain ⟨D, h1, h2, h3⟩ := h
  obtain ⟨w', r, r1, r2⟩ := h1.update K3 Try.underlying28 hn (key3 hk) (plainElem_int Try.underlying3 hz.lit)
  exact ⟨w', r, MI.put h2 h3 z r1, r2⟩
theorem ss_one (w : World) (s : St) (g : Nat) (hg : w.heap.size = g) : Ss (w.alloc (.cells #[.int .i64 s.d, .int .i64 s.who, .int .i64 s.of] 31)) (some ⟨g, 0, none⟩) 1 1 [s] := by
  subst hg
  exact Ss.of_lies rfl (Nat.le_refl _) (by unfold maxLen; omega) (lies_cells w #[.int .i64 s.d, .int .i64 s.who, .int .i64 s.of] 31)
theorem one_wf {s : St} (h : StWf s) : Hid (∀ u ∈ [s], StWf u) := Lib.hid (fun u hu => by
  simp at hu; subst hu; exact h)
theorem sl_two (w : World) (A B : Option Addr) (n c m d : Nat) (g : Nat) (hg : w.heap.size = g) : Sl (w.alloc (.cells #[.slice A n c, .slice B m d] 22)) (some ⟨g, 0, none⟩) 2 2 [.slice A n c, .slice B m d] := by
  subst hg
  exact ⟨rfl, by omega, by unfold maxLen; omega, lies_cells w #[.slice A n c, .slice B m d] 22⟩
theorem few2 (w : World) (A B : Option Addr) (n c m d : Nat) (g : Nat) (hg : w.heap.size = g) :
    Calls Try.prog 9 #[.slice (some ⟨g, 0, none⟩) 2 2] (w.alloc (.cells #[.slice A n c, .slice B m d] 22)) fun e w' => BoolIs e (n ≤ 300 ∧ m ≤ 300) ∧ w.alloc (.cells #[.slice A n c, .slice B m d] 22) = w' :=
  (few_any _ 2 2 _ _ (sl_two w A B n c m d g hg) (by
    intro v hv
    simp at hv
    rcases hv with rfl | rfl
    · exact ⟨_, _, _, rfl⟩
    · exact ⟨_, _, _, rfl⟩)).mono fun e w' ⟨⟨b, h1, h2⟩, h3⟩ => ⟨⟨b, h1, h2.trans (by simp [slen])⟩, h3⟩
set_option maxRecDepth 100000 in
set_option maxHeartbeats 4000000 in
theorem findsWalk (A : Option Addr) (n c : Nat) (l : List St) (B : Option Addr) (p d : Nat) (m : List St) (w : World) (h : Ss w A n c l) (hl : Hid (∀ s ∈ l, StWf s)) (k : Ss w B p d m) (hm : Hid (∀ s ∈ m, StWf s)) :
    Calls Try.prog 3 #[.slice A n c, .slice B p d] w fun e w' => e = .returned (.bool true) ∧ Below w.heap.size w w' := by
  have hmm := @run_makeMap Try.prog
  go_enter Try.func3, Try.ntmps3
  go_wp2_with fail
  refine (lead w).mono ?_; rintro e w1 ⟨rfl, hB1⟩
  go_wp2_with fail
  refine (few2 w1 A B n c p d _ rfl).mono ?_; rintro e w' ⟨⟨b, rfl, hb⟩, rfl⟩
  cases b
  case false =>
    go_wp2_with fail
    go_ret
    exact ⟨rfl, nxa hB1 _⟩
  obtain ⟨hn, hp⟩ := hb.1 rfl
  clear hb
  have h1 := (h.below hB1).alloc (.cells #[.slice A n c, .slice B p d] 22)
  have k1 := (k.below hB1).alloc (.cells #[.slice A n c, .slice B p d] 22)
  have hB1' := nxa hB1 (.cells #[.slice A n c, .slice B p d] 22)
  clear h k hB1
  go_wp2_with fail
  refine (act_ok A n c l _ h1 (by omega) hl).mono ?_; rintro e w2 ⟨A2, c2, rfl, hO2, hB2⟩
  have h2 := h1.below hB2
  have k2 := k1.below hB2
  have hS2 := hO2.sl
  have hB2' := nx hB1' hB2
  clear h1 k1 hO2 hB1' hB2
  go_wp2_with fail
  refine (act_ok B p d m _ k2 (by omega) hm).mono ?_; rintro e w3 ⟨A3, c3, rfl, hO3, hB3⟩
  have h3 := h2.below hB3
  have k3 := k2.below hB3
  have hS3 := hO3.sl
  have hS2' := hS2.below hB3
  have hB3' := nx hB2' hB3
  clear h2 k2 hO3 hB2' hB3 hS2
  go_wp2_with fail
  refine (alike_any A B n p c d l m _ h3 k3 (by omega) (by omega) hl hm).mono ?_; rintro e w4 ⟨b, rfl, hb, hB4⟩
  have hB4' := nx hB3' hB4
  have h4 := h3.below hB4
  have k4 := k3.below hB4
  have hS2 := hS2'.below hB4
  have hS3' := hS3.below hB4
  clear h3 k3 hS2' hS3 hB3' hB4
  cases b
  case false =>
    go_wp2_with fail
    go_ret
    exact ⟨rfl, hB4'⟩
  have hal := hb rfl
  clear hb
  have hnp : n = p := by have := can_len hal; rw [h4.len, k4.len] at this; exact this
  subst hnp
  have hae := act_eq hal
  have hln := act_len l
  rw [h4.len] at hln
  have HST := Lib.hid (fun i s t hs ht => finds_step hal (i := i) (s := s) (t := t) hs ht)
  have HDD := Lib.hid (fun i s t hs ht => (alike_step hal (i := i) (s := s) (t := t) hs ht).1)
  have HCG := Lib.hid (fun i s hs => can_get l i s hs)
  have hnd := act_nodup l
  have hwa := Lib.hid (act_wf hl.out)
  have hwb := Lib.hid (act_wf hm.out)
  obtain ⟨a, ha⟩ : ∃ a, actL l = a := ⟨_, rfl⟩
  obtain ⟨b, hb⟩ : ∃ b, actL m = b := ⟨_, rfl⟩
  rw [ha] at hae hln hnd HST hwa HCG hS2
  rw [hb] at hae HST hwb hS3'
  rw [ha, hb, ← hae]
  rw [← hae] at hS3'
  obtain ⟨N, hN⟩ : ∃ N, a.length = N := ⟨_, rfl⟩
  rw [hN] at hae hln hS2 hS3' ⊢
  have HN := Lib.hid hN; have HNb := Lib.hid hae.symm; have HND := Lib.hid hnd
  have HCL := Lib.hid (fun W hW => can_ok A n c l W hW (by omega) hl)
  clear ha hb hN hae hnd hal
  have t1 : ((N : Int) != (N : Int)) = false := by simp
  go_wp2_with fail
  have hM := MI.new w4
  have hBm : Below w4.heap.size w4 (w4.alloc (.map #[] 0)) := (Below.refl _ w4).alloc (Nat.le_refl _) _
  have H4 := Lib.hid h4; have K4 := Lib.hid k4; have S2 := Lib.hid hS2; have S3 := Lib.hid hS3'; have B4 := Lib.hid hB4'
  clear h4 k4 hS2 hS3' hB4'
  go_loopw [41] (fun i wr => ∃ q : Nat, q ≤ N ∧ i = .int .i64 (q : Int) ∧ MI wr w4.heap.size q (toK a b q) ∧ Below w4.heap.size w4 wr ∧ w4.heap.size < wr.heap.size) (fun i _ => N - (intOf i).toNat)
  case atStart => exact ⟨0, Nat.zero_le _, rfl, hM.congr (fun x => by simp [toK]), hBm, by simp⟩
  case round =>
    clear hM hBm
    obtain ⟨q, hq, rfl, hM, hB, hsz⟩ := hrel
    by_cases hlt : q < N
    · obtain ⟨ad2, hl2, rfl, hc2⟩ := (S2.out.below hB).int hlt
      obtain ⟨ad3, hl3, rfl, hc3⟩ := (S3.out.below hB).int hlt
      obtain ⟨x, hx⟩ : ∃ x, a[q]'hl2 = x := ⟨_, rfl⟩
      obtain ⟨y, hy⟩ : ∃ y, b[q]'hl3 = y := ⟨_, rfl⟩
      have hx2 : a[q]? = some x := by rw [List.getElem?_eq_getElem hl2, hx]
      have hy2 : b[q]? = some y := by rw [List.getElem?_eq_getElem hl3, hy]
      have hxw := hwa.out x (List.mem_of_getElem? hx2)
      have hyw := hwb.out y (List.mem_of_getElem? hy2)
      have HS := Lib.hid (toK_step a b HND.out q x y hx2 hy2)
      rw [hx] at hc2; rw [hy] at hc3
      have iq : (q : Int) < (N : Int) := by omega
      obtain ⟨w5, hrun, hM5, hG5⟩ := MI.upd (w := wr.drew) hM (by unfold maxLen; omega) hxw hyw
      have hB5 := hB.drew.grown hG5 (Nat.le_of_lt hsz) (fun r e => by injection e with e; omega)
      have hsz5 : w4.heap.size < w5.heap.size := Nat.lt_of_lt_of_le hsz hG5.size
      clear hx hx2 hy hy2
      go_wp2_with fail
      go_region
      go_wp2_with fail
      go_roundw
      case rel => exact ⟨q + 1, by omega, by go_num, hM5.congr HS.out, hB5, hsz5⟩
      case measure => simp [intOf]; omega
    · obtain rfl : q = N := by omega
      have hMF : MI wr w4.heap.size q (toF a b) := hM.congr (fun x => by rw [← HN.out]; exact toK_all a b x)
      clear hM
      go_wp2_with fail
      refine (HCL.out _ (H4.out.below hB)).mono ?_; rintro e w5 ⟨A5, c5, rfl, hO5, hB5⟩
      have hS5 := hO5.ss (by rw [canL, List.length_map]; exact H4.out.len)
      have hM5 := hMF.below hB5 hsz
      have hB5' : Below w4.heap.size w4 w5 := hB.trans (hB5.mono (Nat.le_of_lt hsz))
      have hsz5 : w4.heap.size < w5.heap.size := Nat.lt_of_lt_of_le hsz hB5.size
      clear hMF hB hO5 hB5 hsz
      go_wp2_with fail
      go_loopw [58] (fun i wr => ∃ j : Nat, j ≤ n ∧ i = .int .i64 (j : Int) ∧ MI wr w4.heap.size q (toF a b) ∧ Ss wr A5 n c5 (canL l) ∧ Below w4.heap.size w4 wr ∧ w4.heap.size < wr.heap.size) (fun i _ => n - (intOf i).toNat)
      case atStart => exact ⟨0, Nat.zero_le _, rfl, hM5, hS5, hB5', hsz5⟩
      case round =>
        clear hM5 hS5 hB5' hsz5
        obtain ⟨j, hj, rfl, hM, hS5, hB, hsz⟩ := hrel
        by_cases hjl : j < n
        · obtain ⟨adl, s, rfl, hs, s1, s2, s3⟩ := (H4.out.below hB).at_ hjl
          obtain ⟨adm, t, rfl, ht, hmt⟩ := (K4.out.below hB).at_ hjl
          obtain ⟨adc, u, rfl, hu, hut⟩ := hS5.at_ hjl
          obtain ⟨m1, m2, m3⟩ := hmt.alloc (.cells #[.int .i64 s.d, .int .i64 s.who, .int .i64 s.of] 31)
          obtain ⟨u1, u2, u3⟩ := (hut.alloc (.cells #[.int .i64 s.d, .int .i64 s.who, .int .i64 s.of] 31)).alloc (.cells #[.int .i64 t.d, .int .i64 t.who, .int .i64 t.of] 31)
          have hdd := HDD.out j s t hs ht
          have hcg := HCG.out j s hs
          have hud : u.d = s.d := by rw [Option.some.inj (hu.symm.trans hcg)]; exact (tF_fld _ s).1
          have HT := Lib.hid (HST.out j s t hs ht)
          have hsw := hl.out s (List.mem_of_getElem? hs)
          have htw := hm.out t (List.mem_of_getElem? ht)
          have ij : (j : Int) < (n : Int) := by omega
          rw [hud] at u1
          have td : (s.d != t.d) = false := by rw [hdd]; simp
          have te : (s.d != s.d) = false := by simp
          clear hs ht hu hcg hud hdd hmt hut
          go_wp2_with fail
          go_quiet (fail)
          go_wp2_with fail
          have bt : B3 ((((wr.alloc (.cells #[.int .i64 s.d, .int .i64 s.who, .int .i64 s.of] 31)).alloc (.cells #[.int .i64 t.d, .int .i64 t.who, .int .i64 t.of] 31)).drewN nq).alloc (.cells #[.int .i64 s.d, .int .i64 s.who, .int .i64 s.of] 31)) (wr.heap.size + 1) t := by
            have q1 := B3.new (wr.alloc (.cells #[.int .i64 s.d, .int .i64 s.who, .int .i64 s.of] 31)) t
            rw [World.size_alloc] at q1
            exact (q1.block (w' := ((wr.alloc (.cells #[.int .i64 s.d, .int .i64 s.who, .int .i64 s.of] 31)).alloc (.cells #[.int .i64 t.d, .int .i64 t.who, .int .i64 t.of] 31)).drewN nq) rfl).alloc _
          have hW := nxa (below_drewN (nxa (nxa (Below.refl wr.heap.size wr) (.cells #[.int .i64 s.d, .int .i64 s.who, .int .i64 s.of] 31)) (.cells #[.int .i64 t.d, .int .i64 t.who, .int .i64 t.of] 31)) nq) (.cells #[.int .i64 s.d, .int .i64 s.who, .int .i64 s.of] 31)
          have hxs := act_wf (one_wf hsw).out
          have hcs := act_ok (some ⟨wr.heap.size + 1 + 1, 0, none⟩) 1 1 [s] _ (ss_one (((wr.alloc (.cells #[.int .i64 s.d, .int .i64 s.who, .int .i64 s.of] 31)).alloc (.cells #[.int .i64 t.d, .int .i64 t.who, .int .i64 t.of] 31)).drewN nq) s _ (by simp)) (by omega) (one_wf hsw)
          have hct := fun W g (hg : W.heap.size = g) => act_ok (some ⟨g, 0, none⟩) 1 1 [t] _ (ss_one W t g hg) (by omega) (one_wf htw)
          have hol := act_len [s]
          simp only [HT.out, List.length_map] at hct
          obtain ⟨os, hos⟩ : ∃ o, actL [s] = o := ⟨_, rfl⟩
          rw [hos] at hcs hol hxs
          simp only [hos] at hct
          obtain ⟨P, hP⟩ : ∃ P, os.length = P := ⟨_, rfl⟩
          rw [hP] at hcs hol
          simp only [hP] at hct
          have HP := Lib.hid hP
          have hol2 : P ≤ 2 := by simpa using hol
          have HCT := Lib.hid hct
          clear hos hP hol hct HT
          refine hcs.mono ?_; rintro e w6 ⟨A6, c6, rfl, hO6, hB6⟩
          have bt6 := bt.below hB6 bt.lt
          have hS6 := hO6.sl
          have hW6 := nx hW hB6
          have bt0 := bt6.c0; have bt1 := bt6.c1; have bt2 := bt6.c2
          clear hO6 hB6 bt hW
          go_wp2_with fail
          refine (HCT.out _ _ rfl).mono ?_; rintro e w7 ⟨A7, c7, rfl, hO7, hB7⟩
          have hS7 := hO7.sl
          have hS6' := (hS6.alloc (.cells #[.int .i64 t.d, .int .i64 t.who, .int .i64 t.of] 31)).below hB7
          have hW7 := nx (nxa hW6 (.cells #[.int .i64 t.d, .int .i64 t.who, .int .i64 t.of] 31)) hB7
          have hM7 := hM.below hW7 hsz
          have hS57 := hS5.below hW7
          have hB47 := hB.trans (hW7.mono (Nat.le_of_lt hsz))
          have hsz7 : w4.heap.size < w7.heap.size := Nat.lt_of_lt_of_le hsz hW7.size
          clear hO7 hB7 hS6 hW6 hW7 hM hS5 hB bt0 bt1 bt2 bt6
          have tp : ((P : Int) != (P : Int)) = false := by simp
          go_wp2_with fail
          go_loopw [95] (fun i w8 => ∃ k z : Nat, k ≤ P ∧ i = .int .i64 (k : Int) ∧ w8 = w7.drewN z) (fun i _ => P - (intOf i).toNat)
          case atStart => exact ⟨0, 0, Nat.zero_le _, rfl, rfl⟩
          case round =>
            obtain ⟨k, z, hk, rfl, rfl⟩ := hrel
            by_cases hkp : k < P
            · obtain ⟨ad6, hl6, rfl, hc6⟩ := hS6'.int hkp
              obtain ⟨ad7, hl7, rfl, hc7⟩ := hS7.int hkp
              have hxw := hxs _ (List.getElem_mem hl6)
              rw [List.getElem_map] at hc7
              obtain ⟨x, hx⟩ : ∃ x, os[k]'hl6 = x := ⟨_, rfl⟩
              rw [hx] at hc6 hc7 hxw
              have hlk := fun z => (hM7.drewN z).look hxw
              obtain ⟨y, hy⟩ : ∃ y, toF a b x = y := ⟨_, rfl⟩
              rw [hy] at hc7
              simp only [hy] at hlk
              have ty : (y != y) = false := by simp
              have ik : (k : Int) < (P : Int) := by omega
              clear hx hy
              go_wp2_with fail
              go_quiet (fail)
              go_wp2_with fail
              go_roundw
              case rel => exact ⟨k + 1, _, by omega, by go_num, rfl⟩
              case measure => simp [intOf]; omega
            · obtain rfl : k = P := by omega
              go_wp2_with fail
              go_roundw
              case rel => exact ⟨j + 1, by omega, by go_num, hM7.drewN z, hS57.drewN z, below_drewN hB47 z, hsz7⟩
              case measure => simp [intOf]; omega
        · obtain rfl : j = n := by omega
          clear hM hS5
          go_wp2_with fail
          go_ret
          exact ⟨rfl, B4.out.trans (hB.mono B4.out.size)⟩
end Go.Proofs.Ytejoiamdhjhjhaa
